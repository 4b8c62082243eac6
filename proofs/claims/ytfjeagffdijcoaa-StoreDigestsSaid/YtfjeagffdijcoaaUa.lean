/- Layer 7: a map, another instance (uint64 keys, bytes): printed from the texts for ints. Layer 7: a map, another instance (uint64 keys, bytes): printed from the texts for ints. Layer 7: a map, another instance (uint64 keys, bytes): printed from the texts for ints. Layer 7: a map, another instance (uint64 keys, bytes): printed from the texts for ints. Layer 7: a map, another instance (uint64 keys, bytes): printed from the texts for ints. -/
import Derived.Test.YtfjeagffdijcoaaTrMem
import Derived.Test.YtfjeagffdijcoaaChecked
import Derived.StillTailTactics
import Derived.Test.YtfjeagffdijcoaaTa
namespace Go.Proofs.Ytfjeagffdijcoaa
namespace TU
open Go.RowKit

abbrev SV : Type := Option Addr × Nat × Nat
abbrev ek (k : Int) : Value := .int .u64 k
abbrev ev (v : SV) : Value := .slice v.1 v.2.1 v.2.2

theorem height_any (w : World) (t : Tr Int SV) (h : Held ek ev w t) : Calls Try.prog 170 #[t.ptr] w fun e w' => e = .returned (.int .i64 t.high) ∧ w' = w := by
  cases t with
  | nil =>
    clear h
    show Calls _ _ #[.pointer none] _ _
    go_enter Try.func170, Try.ntmps170
    go_wp2_with fail
    go_ret
    exact ⟨rfl, rfl⟩
  | node b l k v r =>
    have c4 := h.1.c4
    clear h
    show Calls _ _ #[.pointer (some ⟨b, 0, none⟩)] _ _
    go_enter Try.func170, Try.ntmps170
    go_wp2_with fail
    go_ret
    exact ⟨rfl, rfl⟩

theorem count_any (w : World) (t : Tr Int SV) (h : Held ek ev w t) : Calls Try.prog 135 #[t.ptr] w fun e w' => e = .returned (.int .i64 t.many) ∧ w' = w := by
  cases t with
  | nil =>
    clear h
    show Calls _ _ #[.pointer none] _ _
    go_enter Try.func135, Try.ntmps135
    go_wp2_with fail
    go_ret
    exact ⟨rfl, rfl⟩
  | node b l k v r =>
    have c5 := h.1.c5
    clear h
    show Calls _ _ #[.pointer (some ⟨b, 0, none⟩)] _ _
    go_enter Try.func135, Try.ntmps135
    go_wp2_with fail
    go_ret
    exact ⟨rfl, rfl⟩

set_option maxRecDepth 100000 in
set_option maxHeartbeats 1000000 in
theorem measure_any (w : World) (b : Nat) (k v : Value) (l r : Tr Int SV) (x y : Int) (hn : NodeAt w b k v l.ptr r.ptr x y) (hl : Held ek ev w l) (hr : Held ek ev w r) (nl : b ∉ l.blocks) (nr : b ∉ r.blocks) (hm : l.many + r.many ≤ 1125899906842624) :
    Calls Try.prog 169 #[.pointer (some ⟨b, 0, none⟩)] w fun e w' => (∃ u, e = .returned u) ∧ NodeAt w' b k v l.ptr r.ptr (1 + max l.high r.high : Nat) (1 + l.many + r.many : Nat) ∧ Wrote (fun x => x = b) w w' := by
  have h1 := l.high_many
  have h2 := r.high_many
  have c2 := hn.c2
  have c3 := hn.c3
  have c4 := hn.c4
  have c5 := hn.c5
  have f4 := hn.fz 4
  have f5 := hn.fz 5
  have HL := hid hl
  have HR := hid hr
  have HN := hid hn
  have NL := hid nl
  have NR := hid nr
  clear hn hl hr nl nr
  go_enter Try.func169, Try.ntmps169
  go_wp2
  go_still_tail 13, (by kernel_rfl)
  still_call (height_any w.drew l (HL.out.drewN 1))
  repeat still_step
  still_call (height_any w.drew r (HR.out.drewN 1))
  repeat still_step
  refine wpStill_nil ?_
  change wpList _ _ _ _ _ w.drew
  go_wp2
  all_goals generalize hW1 : World.drew (World.setCell _ _ _) = W1
  all_goals have hN1 : NodeAt W1 b k v l.ptr r.ptr (1 + max l.high r.high : Nat) y := by first | (rw [show ((1 + max l.high r.high : Nat) : Int) = 1 + ↑l.high from (by omega), ← hW1]; exact (HN.out.set4 _).drewN 1) | (rw [show ((1 + max l.high r.high : Nat) : Int) = 1 + ↑r.high from (by omega), ← hW1]; exact (HN.out.set4 _).drewN 1)
  all_goals have hWr : Wrote (fun x => x = b) w W1 := by rw [← hW1]; exact ((Wrote.refl (fun x => x = b) w).setCell (p := ⟨b, 4, none⟩) (.inl rfl) _).drew
  all_goals clear c2 c3 c4 c5 f4 f5 hW1
  all_goals have c2 := hN1.c2
  all_goals have c3 := hN1.c3
  all_goals have c5 := hN1.c5
  all_goals have f5 := hN1.fz 5
  all_goals have HL1 := hid (HL.out.wrote hWr (fun x hx e => NL.out (e ▸ hx)))
  all_goals have HR1 := hid (HR.out.wrote hWr (fun x hx e => NR.out (e ▸ hx)))
  all_goals have HN1 := hid hN1
  all_goals have HWR := hid hWr
  all_goals clear hN1 hWr
  all_goals go_still_tail 13, (by kernel_rfl)
  all_goals still_call (count_any W1.drew l (HL1.out.drewN 1))
  all_goals repeat still_step
  all_goals still_call (count_any W1.drew r (HR1.out.drewN 1))
  all_goals repeat still_step
  all_goals refine wpStill_nil ?_
  all_goals change wpList _ _ _ _ _ W1.drew
  all_goals go_wp2
  all_goals go_end0
  all_goals refine ⟨⟨_, rfl⟩, ?_, (HWR.out.setCell (p := ⟨b, 5, none⟩) (.inl rfl) _).drew⟩
  all_goals rw [show ((1 + l.many + r.many : Nat) : Int) = 1 + ↑l.many + ↑r.many from (by omega)]
  all_goals exact (HN1.out.set5 _).drewN 1

set_option maxRecDepth 100000 in
theorem turnRight_any (w : World) (b : Nat) (k : Int) (v : SV) (lb : Nat) (ll : Tr Int SV) (lk : Int) (lv : SV) (lr r : Tr Int SV) (x y p q : Int) (hn : NodeAt w b (ek k) (ev v) (.pointer (some ⟨lb, 0, none⟩)) r.ptr x y) (hb : NodeAt w lb (ek lk) (ev lv) ll.ptr lr.ptr p q)
    (hl : Held ek ev w ll) (hm : Held ek ev w lr) (hr : Held ek ev w r) (hd : (b :: lb :: (ll.blocks ++ (lr.blocks ++ r.blocks))).Nodup) (hs : ll.many + lr.many + r.many ≤ 562949953421312) :
    Calls Try.prog 172 #[.pointer (some ⟨b, 0, none⟩)] w fun e w' => e = .returned (.pointer (some ⟨lb, 0, none⟩)) ∧ Held ek ev w' (.node lb ll lk lv (.node b lr k v r)) ∧ Wrote (fun x => x = b ∨ x = lb) w w' := by
  simp only [List.nodup_cons, List.nodup_append, List.mem_cons, List.mem_append, not_or] at hd
  obtain ⟨⟨d1, d2, d3, d4⟩, ⟨d5, d6, d7⟩, -⟩ := hd
  have c2 := hn.c2
  have c3 := hb.c3
  have f2 := hn.fz 2
  have f3 := hb.fz 3
  have HN := hid hn
  have HB := hid hb
  have HL := hid hl
  have HM := hid hm
  have HR := hid hr
  have D1 := hid d1
  have D := hid (show (b ∉ ll.blocks ∧ b ∉ lr.blocks ∧ b ∉ r.blocks) ∧ lb ∉ ll.blocks ∧ lb ∉ lr.blocks ∧ lb ∉ r.blocks from ⟨⟨d2, d3, d4⟩, d5, d6, d7⟩)
  clear hn hb hl hm hr d2 d3 d4 d5 d6 d7
  go_enter Try.func172, Try.ntmps172
  go_wp2_with fail
  generalize hWa : World.setCell (World.setCell _ _ _) _ _ = Wa
  have n1 : NodeAt Wa b (ek k) (ev v) lr.ptr r.ptr x y := by rw [← hWa]; exact (HN.out.set2 _).other (p := ⟨lb, 3, none⟩) (fun e => D1.out e.symm) _
  have n2 : NodeAt Wa lb (ek lk) (ev lv) ll.ptr (.pointer (some ⟨b, 0, none⟩)) p q := by rw [← hWa]; exact (HB.out.other (p := ⟨b, 2, none⟩) (fun e => D1.out e) _).set3 _
  have hW : Wrote (fun x => x = b ∨ x = lb) w Wa := by rw [← hWa]; exact ((Wrote.refl (fun x => x = b ∨ x = lb) w).setCell (p := ⟨b, 2, none⟩) (.inl (.inl rfl)) _).setCell (p := ⟨lb, 3, none⟩) (.inl (.inr rfl)) _
  have hk : ∀ t : Tr Int SV, (b ∉ t.blocks) → lb ∉ t.blocks → Held ek ev w t → Held ek ev Wa t := fun t t1 t2 ht => ht.wrote hW (fun x hx e => e.elim (fun e => t1 (e ▸ hx)) (fun e => t2 (e ▸ hx)))
  have l1 := hk ll D.out.1.1 D.out.2.1 HL.out
  have m1 := hk lr D.out.1.2.1 D.out.2.2.1 HM.out
  have r1 := hk r D.out.1.2.2 D.out.2.2.2 HR.out
  clear hk hWa
  have hms := measure_any Wa b (ek k) (ev v) lr r x y n1 m1 r1 D.out.1.2.1 D.out.1.2.2 (by omega)
  refine hms.mono ?_
  rintro e W2 ⟨⟨u, rfl⟩, g1, g2⟩
  have hB : Held ek ev W2 (.node b lr k v r) := ⟨g1, m1.wrote g2 (fun x hx e => D.out.1.2.1 (e ▸ hx)), r1.wrote g2 (fun x hx e => D.out.1.2.2 (e ▸ hx))⟩
  have n3 := n2.wrote g2 (fun e => D1.out e.symm)
  have l2 := l1.wrote g2 (fun x hx e => D.out.1.1 (e ▸ hx))
  have HB2 := hid hB
  have N3 := hid n3
  have L2 := hid l2
  have HW := hid (hW.step g2 (fun x hx => .inl (.inl hx)))
  clear hms n1 m1 r1 g1 g2 hB n3 n2 l1 l2 hW c2 c3 f2 f3
  go_wp2_with fail
  have hms := measure_any W2 lb (ek lk) (ev lv) ll (.node b lr k v r) p q N3.out L2.out HB2.out D.out.2.1 (by
    simp only [Tr.blocks, List.mem_cons, List.mem_append, not_or]
    exact ⟨fun e => D1.out e.symm, D.out.2.2.1, D.out.2.2.2⟩) (by simp only [Tr.many]; omega)
  refine hms.mono ?_
  rintro e W3 ⟨⟨u, rfl⟩, g1, g2⟩
  have hF : Held ek ev W3 (.node lb ll lk lv (.node b lr k v r)) := ⟨g1, L2.out.wrote g2 (fun x hx e => D.out.2.1 (e ▸ hx)), HB2.out.wrote g2 (fun x hx e => by
    rw [e] at hx
    simp only [Tr.blocks, List.mem_cons, List.mem_append] at hx
    rcases hx with hx | hx | hx
    · exact D1.out hx.symm
    · exact D.out.2.2.1 hx
    · exact D.out.2.2.2 hx)⟩
  have HF := hid hF
  have HW3 := hid (HW.out.step g2 (fun x hx => .inl (.inr hx)))
  clear hms g1 g2 hF
  go_wp2_with fail
  refine bodyPost_ret (results_tmp rfl _ _ _) rfl ?_
  exact ⟨rfl, HF.out, HW3.out⟩

set_option maxRecDepth 100000 in
theorem turnLeft_any (w : World) (b : Nat) (k : Int) (v : SV) (rb : Nat) (rl : Tr Int SV) (rk : Int) (rv : SV) (rr l : Tr Int SV) (x y p q : Int) (hn : NodeAt w b (ek k) (ev v) l.ptr (.pointer (some ⟨rb, 0, none⟩)) x y) (hb : NodeAt w rb (ek rk) (ev rv) rl.ptr rr.ptr p q)
    (hl : Held ek ev w rl) (hm : Held ek ev w rr) (hr : Held ek ev w l) (hd : (b :: rb :: (l.blocks ++ (rl.blocks ++ rr.blocks))).Nodup) (hs : l.many + rl.many + rr.many ≤ 562949953421312) :
    Calls Try.prog 171 #[.pointer (some ⟨b, 0, none⟩)] w fun e w' => e = .returned (.pointer (some ⟨rb, 0, none⟩)) ∧ Held ek ev w' (.node rb (.node b l k v rl) rk rv rr) ∧ Wrote (fun x => x = b ∨ x = rb) w w' := by
  simp only [List.nodup_cons, List.nodup_append, List.mem_cons, List.mem_append, not_or] at hd
  obtain ⟨⟨d1, d2, d3, d4⟩, ⟨d5, d6, d7⟩, -⟩ := hd
  have c3 := hn.c3
  have c2 := hb.c2
  have f3 := hn.fz 3
  have f2 := hb.fz 2
  have HN := hid hn
  have HB := hid hb
  have HL := hid hl
  have HM := hid hm
  have HR := hid hr
  have D1 := hid d1
  have D := hid (show (b ∉ l.blocks ∧ b ∉ rl.blocks ∧ b ∉ rr.blocks) ∧ rb ∉ l.blocks ∧ rb ∉ rl.blocks ∧ rb ∉ rr.blocks from ⟨⟨d2, d3, d4⟩, d5, d6, d7⟩)
  clear hn hb hl hm hr d2 d3 d4 d5 d6 d7
  go_enter Try.func171, Try.ntmps171
  go_wp2_with fail
  generalize hWa : World.setCell (World.setCell _ _ _) _ _ = Wa
  have n1 : NodeAt Wa b (ek k) (ev v) l.ptr rl.ptr x y := by rw [← hWa]; exact (HN.out.set3 _).other (p := ⟨rb, 2, none⟩) (fun e => D1.out e.symm) _
  have n2 : NodeAt Wa rb (ek rk) (ev rv) (.pointer (some ⟨b, 0, none⟩)) rr.ptr p q := by rw [← hWa]; exact (HB.out.other (p := ⟨b, 3, none⟩) (fun e => D1.out e) _).set2 _
  have hW : Wrote (fun x => x = b ∨ x = rb) w Wa := by rw [← hWa]; exact ((Wrote.refl (fun x => x = b ∨ x = rb) w).setCell (p := ⟨b, 3, none⟩) (.inl (.inl rfl)) _).setCell (p := ⟨rb, 2, none⟩) (.inl (.inr rfl)) _
  have hk : ∀ t : Tr Int SV, (b ∉ t.blocks) → rb ∉ t.blocks → Held ek ev w t → Held ek ev Wa t := fun t t1 t2 ht => ht.wrote hW (fun x hx e => e.elim (fun e => t1 (e ▸ hx)) (fun e => t2 (e ▸ hx)))
  have l1 := hk l D.out.1.1 D.out.2.1 HR.out
  have m1 := hk rl D.out.1.2.1 D.out.2.2.1 HL.out
  have r1 := hk rr D.out.1.2.2 D.out.2.2.2 HM.out
  clear hk hWa
  have hms := measure_any Wa b (ek k) (ev v) l rl x y n1 l1 m1 D.out.1.1 D.out.1.2.1 (by omega)
  refine hms.mono ?_
  rintro e W2 ⟨⟨u, rfl⟩, g1, g2⟩
  have hB : Held ek ev W2 (.node b l k v rl) := ⟨g1, l1.wrote g2 (fun x hx e => D.out.1.1 (e ▸ hx)), m1.wrote g2 (fun x hx e => D.out.1.2.1 (e ▸ hx))⟩
  have n3 := n2.wrote g2 (fun e => D1.out e.symm)
  have r2 := r1.wrote g2 (fun x hx e => D.out.1.2.2 (e ▸ hx))
  have HB2 := hid hB
  have N3 := hid n3
  have R2 := hid r2
  have HW := hid (hW.step g2 (fun x hx => .inl (.inl hx)))
  clear hms n1 m1 r1 g1 g2 hB n3 n2 l1 r2 hW c2 c3 f2 f3
  go_wp2_with fail
  have hms := measure_any W2 rb (ek rk) (ev rv) (.node b l k v rl) rr p q N3.out HB2.out R2.out (by
    simp only [Tr.blocks, List.mem_cons, List.mem_append, not_or]
    exact ⟨fun e => D1.out e.symm, D.out.2.1, D.out.2.2.1⟩) D.out.2.2.2 (by simp only [Tr.many]; omega)
  refine hms.mono ?_
  rintro e W3 ⟨⟨u, rfl⟩, g1, g2⟩
  have hF : Held ek ev W3 (.node rb (.node b l k v rl) rk rv rr) := ⟨g1, HB2.out.wrote g2 (fun x hx e => by
    rw [e] at hx
    simp only [Tr.blocks, List.mem_cons, List.mem_append] at hx
    rcases hx with hx | hx | hx
    · exact D1.out hx.symm
    · exact D.out.2.1 hx
    · exact D.out.2.2.1 hx), R2.out.wrote g2 (fun x hx e => D.out.2.2.2 (e ▸ hx))⟩
  have HF := hid hF
  have HW3 := hid (HW.out.step g2 (fun x hx => .inl (.inr hx)))
  clear hms g1 g2 hF
  go_wp2_with fail
  refine bodyPost_ret (results_tmp rfl _ _ _) rfl ?_
  exact ⟨rfl, HF.out, HW3.out⟩
end TU
end Go.Proofs.Ytfjeagffdijcoaa
namespace Go.Proofs.Ytfjeagffdijcoaa
namespace TU
open Go.RowKit

theorem mem_flip {p q : Prop} (h : p ∨ q) : q ∨ p := h.symm

set_option maxRecDepth 100000 in
set_option maxHeartbeats 1000000 in
/-- a left side that is two higher -/
theorem levelA_any (w : World) (b : Nat) (k : Int) (v : SV) (lb : Nat) (ll : Tr Int SV) (lk : Int) (lv : SV) (lr r : Tr Int SV) (x y : Int) (hn : NodeAt w b (ek k) (ev v) (.pointer (some ⟨lb, 0, none⟩)) r.ptr x y) (hl : Held ek ev w (.node lb ll lk lv lr)) (hr : Held ek ev w r)
    (hd : (b :: ((Tr.node lb ll lk lv lr).blocks ++ r.blocks)).Nodup) (hg : r.high + 1 < (Tr.node lb ll lk lv lr).high) (hs : (Tr.node lb ll lk lv lr).many + r.many ≤ 281474976710656) :
    Calls Try.prog 162 #[.pointer (some ⟨b, 0, none⟩)] w fun e w' => e = .returned (Tr.level b (.node lb ll lk lv lr) k v r).ptr ∧ Held ek ev w' (Tr.level b (.node lb ll lk lv lr) k v r) ∧ Wrote (fun x => x = b ∨ x ∈ (Tr.node lb ll lk lv lr).blocks ∨ x ∈ r.blocks) w w' := by
  have hh := (Tr.node lb ll lk lv lr).high_many
  have hms := measure_any w b (ek k) (ev v) (.node lb ll lk lv lr) r x y hn hl hr (fun h => (List.nodup_cons.1 hd).1 (List.mem_append_left _ h)) (fun h => (List.nodup_cons.1 hd).1 (List.mem_append_right _ h)) (by omega)
  have HL := hid hl
  have HR := hid hr
  have HD := hid hd
  have hlev : Hid (Tr.level b (.node lb ll lk lv lr) k v r = (Tr.node b (if ll.high < lr.high then (Tr.node lb ll lk lv lr).turnL else .node lb ll lk lv lr) k v r).turnR) := by show _ = _; unfold Tr.level; rw [if_pos hg]; rfl
  have hd1 : (1 : Int) < ((Tr.node lb ll lk lv lr).high : Int) - (r.high : Int) := by omega
  have hwr : IntKind.i64.wrap (((Tr.node lb ll lk lv lr).high : Int) - (r.high : Int)) = ((Tr.node lb ll lk lv lr).high : Int) - (r.high : Int) := wrap_mid _ (by omega) (by omega)
  have HMS := hid hms
  clear hn hl hr hms hd
  go_enter Try.func162, Try.ntmps162
  go_wp2_with fail
  refine HMS.out.mono ?_
  rintro e W1 ⟨⟨u, rfl⟩, g1, g2⟩
  have hL1 : Held ek ev W1 (.node lb ll lk lv lr) := HL.out.wrote g2 (fun x hx e => (List.nodup_cons.1 HD.out).1 (e ▸ List.mem_append_left _ hx))
  have hR1 : Held ek ev W1 r := HR.out.wrote g2 (fun x hx e => (List.nodup_cons.1 HD.out).1 (e ▸ List.mem_append_right _ hx))
  have c2 : W1.cell? ⟨b, 2, none⟩ = some (.pointer (some ⟨lb, 0, none⟩)) := g1.c2
  have c3 := g1.c3
  have d2 := hL1.1.c2
  have d3 := hL1.1.c3
  have HL1 := hid hL1
  have HR1 := hid hR1
  have G1 := hid g1
  have G2 := hid g2
  clear g1 g2 hL1 hR1
  go_wp2_with fail
  refine wp_region_still_lit (by kernel_rfl) (by kernel_rfl) ?_
  repeat still_step
  still_call (height_any W1.drew (.node lb ll lk lv lr) (HL1.out.drewN 1))
  repeat still_step
  still_call (height_any W1.drew r (HR1.out.drewN 1))
  repeat still_step
  refine wpStill_nil ?_
  go_wp2_with fail
  clear c3
  generalize hW2 : World.drew W1 = W2
  have c2' : W2.cell? ⟨b, 2, none⟩ = some (.pointer (some ⟨lb, 0, none⟩)) := by rw [← hW2]; exact c2
  have d2' : W2.cell? ⟨lb, 2, none⟩ = some ll.ptr := by rw [← hW2]; exact d2
  have d3' : W2.cell? ⟨lb, 3, none⟩ = some lr.ptr := by rw [← hW2]; exact d3
  have HL2 : Hid (Held ek ev W2 (.node lb ll lk lv lr)) := by rw [← hW2]; exact HL1.out.drewN 1
  have HR2 : Hid (Held ek ev W2 r) := by rw [← hW2]; exact HR1.out.drewN 1
  have HN2 : Hid (∃ h n, NodeAt W2 b (ek k) (ev v) (.pointer (some ⟨lb, 0, none⟩)) r.ptr h n) := by rw [← hW2]; exact ⟨_, _, G1.out.drewN 1⟩
  have HW2 : Hid (Wrote (fun x => x = b) w W2) := by rw [← hW2]; exact G2.out.drew
  clear hW2 c2 d2 d3 HL1 HR1 G1 G2
  refine wp_region_still_lit (by kernel_rfl) (by kernel_rfl) ?_
  repeat still_step
  still_call (height_any W2.drew ll (HL2.out.2.1.drewN 1))
  repeat still_step
  still_call (height_any W2.drew lr (HL2.out.2.2.drewN 1))
  repeat still_step
  refine wpStill_nil ?_
  change Exit.then _ _ Exit.normal _ (World.drew W2)
  generalize hW3 : World.drew W2 = W3
  have c2 : W3.cell? ⟨b, 2, none⟩ = some (.pointer (some ⟨lb, 0, none⟩)) := by rw [← hW3]; exact c2'
  have HL3 : Hid (Held ek ev W3 (.node lb ll lk lv lr)) := by rw [← hW3]; exact HL2.out.drewN 1
  have HR3 : Hid (Held ek ev W3 r) := by rw [← hW3]; exact HR2.out.drewN 1
  obtain ⟨h3, n3, hN3⟩ : ∃ h n, NodeAt W3 b (ek k) (ev v) (.pointer (some ⟨lb, 0, none⟩)) r.ptr h n := by rw [← hW3]; obtain ⟨h, n, hn⟩ := HN2.out; exact ⟨h, n, hn.drewN 1⟩
  have HN3 := hid hN3
  clear hN3
  have HW3 : Hid (Wrote (fun x => x = b) w W3) := by rw [← hW3]; exact HW2.out.drew
  have f2 : W3.frozen? ⟨b, 2, none⟩ = false := HN3.out.fz 2
  clear hW3 c2' d2' d3' HL2 HR2 HN2 HW2
  by_cases hlt : ll.high < lr.high
  · cases lr with
    | nil => exact absurd hlt (Nat.not_lt_zero _)
    | node qb ql qk qv qr =>
      have hlt' : (ll.high : Int) < ((Tr.node qb ql qk qv qr).high : Int) := by omega
      have HE : Hid (Tr.level b (.node lb ll lk lv (.node qb ql qk qv qr)) k v r = .node qb (.node lb ll lk lv ql) qk qv (.node b qr k v r)) := by show _ = _; rw [hlev.out, if_pos hlt]; rfl
      have hd := HD.out
      simp only [Tr.blocks, List.cons_append, List.append_assoc] at hd
      have m1 : (lb :: qb :: (ll.blocks ++ (ql.blocks ++ qr.blocks))).Nodup := by
        simp only [List.nodup_cons, List.nodup_append, List.mem_cons, List.mem_append] at hd ⊢; grind
      have m2 : (b :: qb :: ((Tr.node lb ll lk lv ql).blocks ++ (qr.blocks ++ r.blocks))).Nodup := by
        simp only [Tr.blocks, List.cons_append, List.nodup_cons, List.nodup_append, List.mem_cons, List.mem_append] at hd ⊢; grind
      have m3 : b ≠ lb ∧ b ≠ qb := by
        simp only [List.nodup_cons, List.nodup_append, List.mem_cons, List.mem_append] at hd; grind
      have m4 : b ∉ (Tr.node qb (Tr.node lb ll lk lv ql) qk qv qr).blocks ∧ (∀ x ∈ r.blocks, x ≠ lb ∧ x ≠ qb) := by
        simp only [Tr.blocks, List.cons_append, List.nodup_cons, List.nodup_append, List.mem_cons, List.mem_append] at hd ⊢; grind
      have M1 := hid m1
      have M2 := hid m2
      have M3 := hid m3
      have M4 := hid m4
      clear hd m1 m2 m3 m4
      have hs2 : ll.many + ql.many + qr.many + r.many ≤ 281474976710656 := by simp only [Tr.many] at hs; omega
      go_wp2_with fail
      refine (turnLeft_any W3 lb lk lv qb ql qk qv qr ll _ _ _ _ HL3.out.1 HL3.out.2.2.1 HL3.out.2.2.2.1 HL3.out.2.2.2.2 HL3.out.2.1 M1.out (by omega)).mono ?_
      rintro e W4 ⟨rfl, g1, g2⟩
      have hN4 := HN3.out.wrote g2 (fun e => e.elim M3.out.1 M3.out.2)
      have hR4 := HR3.out.wrote g2 (fun x hx e => e.elim (M4.out.2 x hx).1 (M4.out.2 x hx).2)
      have c4 := hN4.c2
      have f4 := hN4.fz 2
      have HN4 := hid hN4
      have HR4 := hid hR4
      have G1 := hid g1
      have HW4 := hid (Wrote.step (S := fun x => x = b ∨ x ∈ (Tr.node lb ll lk lv (Tr.node qb ql qk qv qr)).blocks ∨ x ∈ r.blocks) (HW3.out.mono (fun x hx => .inl hx)) g2 (fun x hx => .inl (.inr (.inl (by simp only [Tr.blocks, List.mem_cons, List.mem_append]; grind)))))
      clear hN4 hR4 g1 g2 c2 f2
      go_wp2_with fail
      generalize hW5 : World.setCell W4 _ _ = W5
      have n5 : NodeAt W5 b (ek k) (ev v) (.pointer (some ⟨qb, 0, none⟩)) r.ptr h3 n3 := by rw [← hW5]; exact HN4.out.set2 _
      have l5 : Held ek ev W5 (.node qb (.node lb ll lk lv ql) qk qv qr) := by rw [← hW5]; exact G1.out.setCell M4.out.1 _
      have r5 : Held ek ev W5 r := by rw [← hW5]; exact HR4.out.setCell (fun h => (List.nodup_cons.1 HD.out).1 (List.mem_append_right _ h)) _
      have w5 : Wrote (fun x => x = b ∨ x ∈ (Tr.node lb ll lk lv (Tr.node qb ql qk qv qr)).blocks ∨ x ∈ r.blocks) w W5 := by rw [← hW5]; exact HW4.out.setCell (p := ⟨b, 2, none⟩) (.inl (.inl rfl)) _
      have W5' := hid w5
      clear hW5 w5
      refine (turnRight_any W5 b k v qb (.node lb ll lk lv ql) qk qv qr r _ _ _ _ n5 l5.1 l5.2.1 l5.2.2 r5 M2.out (by simp only [Tr.many]; simp only [Tr.many] at hs; omega)).mono ?_
      rintro e W6 ⟨rfl, g1, g2⟩
      have G1 := hid g1
      have G2 := hid g2
      clear n5 l5 r5 g1 g2
      go_wp2_with fail
      refine bodyPost_ret (results_tmp rfl _ _ _) rfl ?_
      rw [HE.out]
      exact ⟨rfl, G1.out, W5'.out.step G2.out (fun x hx => .inl (hx.elim .inl (fun e => .inr (.inl (by rw [e]; simp only [Tr.blocks, List.mem_cons, List.mem_append]; grind)))))⟩
  · have hlt' : ¬ (ll.high : Int) < (lr.high : Int) := by omega
    have HE : Hid (Tr.level b (.node lb ll lk lv lr) k v r = .node lb ll lk lv (.node b lr k v r)) := by show _ = _; rw [hlev.out, if_neg hlt]; rfl
    clear hlt
    have hs2 : ll.many + lr.many + r.many ≤ 281474976710656 := by simp only [Tr.many] at hs; omega
    go_wp2_with fail
    refine (turnRight_any W3 b k v lb ll lk lv lr r _ _ _ _ HN3.out HL3.out.1 HL3.out.2.1 HL3.out.2.2 HR3.out (by have := HD.out; simpa only [Tr.blocks, List.cons_append, List.append_assoc] using this) (by omega)).mono ?_
    rintro e W6 ⟨rfl, g1, g2⟩
    have G1 := hid g1
    have G2 := hid g2
    clear g1 g2
    go_wp2_with fail
    refine bodyPost_ret (results_tmp rfl _ _ _) rfl ?_
    rw [HE.out]
    exact ⟨rfl, G1.out, Wrote.step (HW3.out.mono (fun x hx => .inl hx)) G2.out (fun x hx => .inl (hx.elim .inl (fun e => .inr (.inl (by rw [e]; simp only [Tr.blocks, List.mem_cons, true_or])))))⟩

set_option maxRecDepth 100000 in
set_option maxHeartbeats 1000000 in
/-- a right side that is two higher -/
theorem levelB_any (w : World) (b : Nat) (k : Int) (v : SV) (rb : Nat) (rl : Tr Int SV) (rk : Int) (rv : SV) (rr l : Tr Int SV) (x y : Int) (hn : NodeAt w b (ek k) (ev v) l.ptr (.pointer (some ⟨rb, 0, none⟩)) x y) (hl : Held ek ev w l) (hr : Held ek ev w (.node rb rl rk rv rr))
    (hd : (b :: (l.blocks ++ (Tr.node rb rl rk rv rr).blocks)).Nodup) (hg : l.high + 1 < (Tr.node rb rl rk rv rr).high) (hs : l.many + (Tr.node rb rl rk rv rr).many ≤ 281474976710656) :
    Calls Try.prog 162 #[.pointer (some ⟨b, 0, none⟩)] w fun e w' => e = .returned (Tr.level b l k v (.node rb rl rk rv rr)).ptr ∧ Held ek ev w' (Tr.level b l k v (.node rb rl rk rv rr)) ∧ Wrote (fun x => x = b ∨ x ∈ l.blocks ∨ x ∈ (Tr.node rb rl rk rv rr).blocks) w w' := by
  have hh := (Tr.node rb rl rk rv rr).high_many
  have hms := measure_any w b (ek k) (ev v) l (.node rb rl rk rv rr) x y hn hl hr (fun h => (List.nodup_cons.1 hd).1 (List.mem_append_left _ h)) (fun h => (List.nodup_cons.1 hd).1 (List.mem_append_right _ h)) (by omega)
  have HL := hid hl
  have HR := hid hr
  have HD := hid hd
  have hlev : Hid (Tr.level b l k v (.node rb rl rk rv rr) = (Tr.node b l k v (if rr.high < rl.high then (Tr.node rb rl rk rv rr).turnR else .node rb rl rk rv rr)).turnL) := by show _ = _; unfold Tr.level; rw [if_neg (show ¬ (Tr.node rb rl rk rv rr).high + 1 < l.high by omega), if_pos hg]; rfl
  have hd0 : ¬ (1 : Int) < (l.high : Int) - ((Tr.node rb rl rk rv rr).high : Int) := by omega
  have hd1 : (l.high : Int) - ((Tr.node rb rl rk rv rr).high : Int) < -1 := by omega
  have hwr : IntKind.i64.wrap ((l.high : Int) - ((Tr.node rb rl rk rv rr).high : Int)) = (l.high : Int) - ((Tr.node rb rl rk rv rr).high : Int) := wrap_mid _ (by omega) (by omega)
  have HMS := hid hms
  clear hn hl hr hms hd
  go_enter Try.func162, Try.ntmps162
  go_wp2_with fail
  refine HMS.out.mono ?_
  rintro e W1 ⟨⟨u, rfl⟩, g1, g2⟩
  have hL1 : Held ek ev W1 l := HL.out.wrote g2 (fun x hx e => (List.nodup_cons.1 HD.out).1 (e ▸ List.mem_append_left _ hx))
  have hR1 : Held ek ev W1 (.node rb rl rk rv rr) := HR.out.wrote g2 (fun x hx e => (List.nodup_cons.1 HD.out).1 (e ▸ List.mem_append_right _ hx))
  have c3 : W1.cell? ⟨b, 3, none⟩ = some (.pointer (some ⟨rb, 0, none⟩)) := g1.c3
  have c2 := g1.c2
  have d2 := hR1.1.c2
  have d3 := hR1.1.c3
  have HL1 := hid hL1
  have HR1 := hid hR1
  have G1 := hid g1
  have G2 := hid g2
  clear g1 g2 hL1 hR1
  go_wp2_with fail
  refine wp_region_still_lit (by kernel_rfl) (by kernel_rfl) ?_
  repeat still_step
  still_call (height_any W1.drew l (HL1.out.drewN 1))
  repeat still_step
  still_call (height_any W1.drew (.node rb rl rk rv rr) (HR1.out.drewN 1))
  repeat still_step
  refine wpStill_nil ?_
  go_wp2_with fail
  clear c2
  generalize hW2 : World.drew W1 = W2
  have c3' : W2.cell? ⟨b, 3, none⟩ = some (.pointer (some ⟨rb, 0, none⟩)) := by rw [← hW2]; exact c3
  have d2' : W2.cell? ⟨rb, 2, none⟩ = some rl.ptr := by rw [← hW2]; exact d2
  have d3' : W2.cell? ⟨rb, 3, none⟩ = some rr.ptr := by rw [← hW2]; exact d3
  have HL2 : Hid (Held ek ev W2 l) := by rw [← hW2]; exact HL1.out.drewN 1
  have HR2 : Hid (Held ek ev W2 (.node rb rl rk rv rr)) := by rw [← hW2]; exact HR1.out.drewN 1
  have HN2 : Hid (∃ h n, NodeAt W2 b (ek k) (ev v) l.ptr (.pointer (some ⟨rb, 0, none⟩)) h n) := by rw [← hW2]; exact ⟨_, _, G1.out.drewN 1⟩
  have HW2 : Hid (Wrote (fun x => x = b) w W2) := by rw [← hW2]; exact G2.out.drew
  clear hW2 c3 d2 d3 HL1 HR1 G1 G2
  refine wp_region_still_lit (by kernel_rfl) (by kernel_rfl) ?_
  repeat still_step
  still_call (height_any W2.drew rr (HR2.out.2.2.drewN 1))
  repeat still_step
  still_call (height_any W2.drew rl (HR2.out.2.1.drewN 1))
  repeat still_step
  refine wpStill_nil ?_
  change Exit.then _ _ Exit.normal _ (World.drew W2)
  generalize hW3 : World.drew W2 = W3
  have c3 : W3.cell? ⟨b, 3, none⟩ = some (.pointer (some ⟨rb, 0, none⟩)) := by rw [← hW3]; exact c3'
  have HL3 : Hid (Held ek ev W3 l) := by rw [← hW3]; exact HL2.out.drewN 1
  have HR3 : Hid (Held ek ev W3 (.node rb rl rk rv rr)) := by rw [← hW3]; exact HR2.out.drewN 1
  obtain ⟨h3, n3, hN3⟩ : ∃ h n, NodeAt W3 b (ek k) (ev v) l.ptr (.pointer (some ⟨rb, 0, none⟩)) h n := by rw [← hW3]; obtain ⟨h, n, hn⟩ := HN2.out; exact ⟨h, n, hn.drewN 1⟩
  have HN3 := hid hN3
  clear hN3
  have HW3 : Hid (Wrote (fun x => x = b) w W3) := by rw [← hW3]; exact HW2.out.drew
  have f3 : W3.frozen? ⟨b, 3, none⟩ = false := HN3.out.fz 3
  clear hW3 c3' d2' d3' HL2 HR2 HN2 HW2
  by_cases hlt : rr.high < rl.high
  · cases rl with
    | nil => exact absurd hlt (Nat.not_lt_zero _)
    | node qb ql qk qv qr =>
      have hlt' : (rr.high : Int) < ((Tr.node qb ql qk qv qr).high : Int) := by omega
      have HE : Hid (Tr.level b l k v (.node rb (.node qb ql qk qv qr) rk rv rr) = .node qb (.node b l k v ql) qk qv (.node rb qr rk rv rr)) := by show _ = _; rw [hlev.out, if_pos hlt]; rfl
      have hd := HD.out
      simp only [Tr.blocks, List.cons_append, List.append_assoc] at hd
      have m1 : (rb :: qb :: (ql.blocks ++ (qr.blocks ++ rr.blocks))).Nodup := by
        simp only [List.nodup_cons, List.nodup_append, List.mem_cons, List.mem_append] at hd ⊢; grind
      have m2 : (b :: qb :: (l.blocks ++ (ql.blocks ++ (Tr.node rb qr rk rv rr).blocks))).Nodup := by
        simp only [Tr.blocks, List.nodup_cons, List.nodup_append, List.mem_cons, List.mem_append] at hd ⊢; grind
      have m3 : b ≠ rb ∧ b ≠ qb := by
        simp only [List.nodup_cons, List.nodup_append, List.mem_cons, List.mem_append] at hd; grind
      have m4 : b ∉ (Tr.node qb ql qk qv (Tr.node rb qr rk rv rr)).blocks ∧ (∀ x ∈ l.blocks, x ≠ rb ∧ x ≠ qb) := by
        simp only [Tr.blocks, List.nodup_cons, List.nodup_append, List.mem_cons, List.mem_append] at hd ⊢; grind
      have M1 := hid m1
      have M2 := hid m2
      have M3 := hid m3
      have M4 := hid m4
      clear hd m1 m2 m3 m4
      have hs2 : rr.many + ql.many + qr.many + l.many ≤ 281474976710656 := by simp only [Tr.many] at hs; omega
      go_wp2_with fail
      refine (turnRight_any W3 rb rk rv qb ql qk qv qr rr _ _ _ _ HR3.out.1 HR3.out.2.1.1 HR3.out.2.1.2.1 HR3.out.2.1.2.2 HR3.out.2.2 M1.out (by omega)).mono ?_
      rintro e W4 ⟨rfl, g1, g2⟩
      have hN4 := HN3.out.wrote g2 (fun e => e.elim M3.out.1 M3.out.2)
      have hL4 := HL3.out.wrote g2 (fun x hx e => e.elim (M4.out.2 x hx).1 (M4.out.2 x hx).2)
      have c4 := hN4.c3
      have f4 := hN4.fz 3
      have HN4 := hid hN4
      have HL4 := hid hL4
      have G1 := hid g1
      have HW4 := hid (Wrote.step (S := fun x => x = b ∨ x ∈ l.blocks ∨ x ∈ (Tr.node rb (Tr.node qb ql qk qv qr) rk rv rr).blocks) (HW3.out.mono (fun x hx => .inl hx)) g2 (fun x hx => .inl (.inr (.inr (by simp only [Tr.blocks, List.mem_cons, List.mem_append]; grind)))))
      clear hN4 hL4 g1 g2 c3 f3
      go_wp2_with fail
      generalize hW5 : World.setCell W4 _ _ = W5
      have n5 : NodeAt W5 b (ek k) (ev v) l.ptr (.pointer (some ⟨qb, 0, none⟩)) h3 n3 := by rw [← hW5]; exact HN4.out.set3 _
      have r5 : Held ek ev W5 (.node qb ql qk qv (.node rb qr rk rv rr)) := by rw [← hW5]; exact G1.out.setCell M4.out.1 _
      have l5 : Held ek ev W5 l := by rw [← hW5]; exact HL4.out.setCell (fun h => (List.nodup_cons.1 HD.out).1 (List.mem_append_left _ h)) _
      have w5 : Wrote (fun x => x = b ∨ x ∈ l.blocks ∨ x ∈ (Tr.node rb (Tr.node qb ql qk qv qr) rk rv rr).blocks) w W5 := by rw [← hW5]; exact HW4.out.setCell (p := ⟨b, 3, none⟩) (.inl (.inl rfl)) _
      have W5' := hid w5
      clear hW5 w5
      refine (turnLeft_any W5 b k v qb ql qk qv (.node rb qr rk rv rr) l _ _ _ _ n5 r5.1 r5.2.1 r5.2.2 l5 M2.out (by simp only [Tr.many]; simp only [Tr.many] at hs; omega)).mono ?_
      rintro e W6 ⟨rfl, g1, g2⟩
      have G1 := hid g1
      have G2 := hid g2
      clear n5 l5 r5 g1 g2
      go_wp2_with fail
      refine bodyPost_ret (results_tmp rfl _ _ _) rfl ?_
      rw [HE.out]
      exact ⟨rfl, G1.out, W5'.out.step G2.out (fun x hx => .inl (hx.elim .inl (fun e => .inr (.inr (by rw [e]; simp only [Tr.blocks, List.mem_cons, List.mem_append]; grind)))))⟩
  · have hlt' : ¬ (rr.high : Int) < (rl.high : Int) := by omega
    have HE : Hid (Tr.level b l k v (.node rb rl rk rv rr) = .node rb (.node b l k v rl) rk rv rr) := by show _ = _; rw [hlev.out, if_neg hlt]; rfl
    clear hlt
    have hs2 : rr.many + rl.many + l.many ≤ 281474976710656 := by simp only [Tr.many] at hs; omega
    have m2 : (b :: rb :: (l.blocks ++ (rl.blocks ++ rr.blocks))).Nodup := by
      have hd := HD.out
      simp only [Tr.blocks, List.nodup_cons, List.nodup_append, List.mem_cons, List.mem_append] at hd ⊢; grind
    have M2 := hid m2
    clear m2
    go_wp2_with fail
    refine (turnLeft_any W3 b k v rb rl rk rv rr l _ _ _ _ HN3.out HR3.out.1 HR3.out.2.1 HR3.out.2.2 HL3.out M2.out (by omega)).mono ?_
    rintro e W6 ⟨rfl, g1, g2⟩
    have G1 := hid g1
    have G2 := hid g2
    clear g1 g2
    go_wp2_with fail
    refine bodyPost_ret (results_tmp rfl _ _ _) rfl ?_
    rw [HE.out]
    exact ⟨rfl, G1.out, Wrote.step (HW3.out.mono (fun x hx => .inl hx)) G2.out (fun x hx => .inl (hx.elim .inl (fun e => .inr (.inr (by rw [e]; simp only [Tr.blocks, List.mem_cons, true_or])))))⟩

set_option maxRecDepth 100000 in
/-- sides that are level -/
theorem levelC_any (w : World) (b : Nat) (k : Int) (v : SV) (l r : Tr Int SV) (x y : Int) (hn : NodeAt w b (ek k) (ev v) l.ptr r.ptr x y) (hl : Held ek ev w l) (hr : Held ek ev w r)
    (hd : (b :: (l.blocks ++ r.blocks)).Nodup) (hg1 : l.high ≤ r.high + 1) (hg2 : r.high ≤ l.high + 1) (hs : l.many + r.many ≤ 281474976710656) :
    Calls Try.prog 162 #[.pointer (some ⟨b, 0, none⟩)] w fun e w' => e = .returned (Tr.level b l k v r).ptr ∧ Held ek ev w' (Tr.level b l k v r) ∧ Wrote (fun x => x = b ∨ x ∈ l.blocks ∨ x ∈ r.blocks) w w' := by
  have hh := l.high_many
  have hh2 := r.high_many
  have hms := measure_any w b (ek k) (ev v) l r x y hn hl hr (fun h => (List.nodup_cons.1 hd).1 (List.mem_append_left _ h)) (fun h => (List.nodup_cons.1 hd).1 (List.mem_append_right _ h)) (by omega)
  have HL := hid hl
  have HR := hid hr
  have HD := hid hd
  have hlev : Hid (Tr.level b l k v r = .node b l k v r) := by show _ = _; unfold Tr.level; rw [if_neg (show ¬ r.high + 1 < l.high by omega), if_neg (show ¬ l.high + 1 < r.high by omega)]
  have hd0 : ¬ (1 : Int) < (l.high : Int) - (r.high : Int) := by omega
  have hd1 : ¬ (l.high : Int) - (r.high : Int) < -1 := by omega
  have hwr : IntKind.i64.wrap ((l.high : Int) - (r.high : Int)) = (l.high : Int) - (r.high : Int) := wrap_mid _ (by omega) (by omega)
  have HMS := hid hms
  clear hn hl hr hms hd
  go_enter Try.func162, Try.ntmps162
  go_wp2_with fail
  refine HMS.out.mono ?_
  rintro e W1 ⟨⟨u, rfl⟩, g1, g2⟩
  have hL1 : Held ek ev W1 l := HL.out.wrote g2 (fun x hx e => (List.nodup_cons.1 HD.out).1 (e ▸ List.mem_append_left _ hx))
  have hR1 : Held ek ev W1 r := HR.out.wrote g2 (fun x hx e => (List.nodup_cons.1 HD.out).1 (e ▸ List.mem_append_right _ hx))
  have c2 := g1.c2
  have c3 := g1.c3
  have HL1 := hid hL1
  have HR1 := hid hR1
  have G1 := hid g1
  have G2 := hid g2
  clear g1 g2 hL1 hR1
  go_wp2_with fail
  refine wp_region_still_lit (by kernel_rfl) (by kernel_rfl) ?_
  repeat still_step
  still_call (height_any W1.drew l (HL1.out.drewN 1))
  repeat still_step
  still_call (height_any W1.drew r (HR1.out.drewN 1))
  repeat still_step
  refine wpStill_nil ?_
  go_wp2_with fail
  refine bodyPost_ret (results_tmp rfl _ _ _) rfl ?_
  rw [hlev.out]
  exact ⟨rfl, ⟨G1.out.drewN 1, HL1.out.drewN 1, HR1.out.drewN 1⟩, (G2.out.mono (fun x hx => .inl hx)).drew⟩

theorem level_any (w : World) (b : Nat) (k : Int) (v : SV) (l r : Tr Int SV) (x y : Int) (hn : NodeAt w b (ek k) (ev v) l.ptr r.ptr x y) (hl : Held ek ev w l) (hr : Held ek ev w r)
    (hd : (b :: (l.blocks ++ r.blocks)).Nodup) (hs : l.many + r.many ≤ 281474976710656) :
    Calls Try.prog 162 #[.pointer (some ⟨b, 0, none⟩)] w fun e w' => e = .returned (Tr.level b l k v r).ptr ∧ Held ek ev w' (Tr.level b l k v r) ∧ Wrote (fun x => x = b ∨ x ∈ l.blocks ∨ x ∈ r.blocks) w w' := by
  by_cases h1 : r.high + 1 < l.high
  · cases l with
    | nil => exact absurd h1 (Nat.not_lt_zero _)
    | node lb ll lk lv lr => exact levelA_any w b k v lb ll lk lv lr r x y hn hl hr hd h1 hs
  · by_cases h2 : l.high + 1 < r.high
    · cases r with
      | nil => exact absurd h2 (Nat.not_lt_zero _)
      | node rb rl rk rv rr => exact levelB_any w b k v rb rl rk rv rr l x y hn hl hr hd h2 hs
    · exact levelC_any w b k v l r x y hn hl hr hd (by omega) (by omega) hs
end TU
end Go.Proofs.Ytfjeagffdijcoaa
namespace Go.Proofs.Ytfjeagffdijcoaa
namespace TU
open Go.RowKit

/-- a function value that orders keys; it reads what I says, in blocks of K -/
structure OrdFn (g : Nat) (cb : Array Value) (c : Int → Int → Int) (I : World → Prop) (K : Nat → Prop) : Prop where
  eg : ∀ args w, (callFunc g args).run Try.prog w = .ok (.enter g args) w
  call : ∀ w a b, I w → Calls Try.prog g (#[.int .u64 a, .int .u64 b] ++ cb) w fun e w' => e = .returned (.int .i64 (c a b)) ∧ ∃ q, w' = w.drewN q
  keep : ∀ S w w', Wrote S w w' → (∀ x, S x → ¬ K x) → I w → I w'

abbrev ordV (g : Nat) (cb : Array Value) : Value := .func (.func g) #[] cb

set_option maxRecDepth 100000 in
set_option maxHeartbeats 2000000 in
theorem put_any (g : Nat) (cb : Array Value) (c : Int → Int → Int) (I : World → Prop) (K : Nat → Prop) (ho : OrdFn g cb c I K) (key : Int) (val : SV) (O : Nat) : ∀ (t : Tr Int SV) (w : World) (old : SV), Held ek ev w t → t.blocks.Nodup → t.many ≤ 70368744177664 → O ∉ t.blocks →
    w.cell? ⟨O, 0, none⟩ = some (.slice old.1 old.2.1 old.2.2) → w.frozen? ⟨O, 0, none⟩ = false → I w → (∀ x ∈ t.blocks, ¬ K x) →
    Calls Try.prog 136 #[t.ptr, ordV g cb, .int .u64 key, .slice val.1 val.2.1 val.2.2, .pointer (some ⟨O, 0, none⟩)] w fun e w' =>
      ∃ nb, w.heap.size ≤ nb ∧ e = .returned (.tuple #[(Tr.put c key val nb t).ptr, .bool (Tr.get c key t).isSome]) ∧ Held ek ev w' (Tr.put c key val nb t) ∧ Wrote (fun x => x = O ∨ x ∈ t.blocks) w w' ∧
        w'.cell? ⟨O, 0, none⟩ = some (.slice ((Tr.get c key t).getD old).1 ((Tr.get c key t).getD old).2.1 ((Tr.get c key t).getD old).2.2) := by
  intro t
  have eg := ho.eg
  induction t with
  | nil =>
    intro w old _ _ _ _ hO _ _ _
    have HO := hid hO
    have hOl := World.block_lt_of_cell? _ _ hO
    clear hO
    show Calls _ _ #[.pointer none, _, _, _, _] _ _
    go_enter Try.func136, Try.ntmps136
    go_wp2_with fail
    go_ret2
    refine ⟨w.heap.size, Nat.le_refl _, rfl, ⟨?_, trivial, trivial⟩, ?_, ?_⟩
    · exact NodeAt.new w _ _ _ _ 1 1 _
    · exact (Wrote.refl _ w).alloc _
    · show _ = some (Value.slice old.1 old.2.1 old.2.2)
      rw [← HO.out]
      exact (Below.refl _ w |>.alloc (Nat.le_refl _) _).cell hOl
  | node b l k v r ihl ihr =>
    intro w old hh hd hm hO hc hf hi hk
    have HH := hid hh
    have HD := hid hd
    have HK := hid hk
    have HI := hid hi
    have hkey := hh.1.c0
    have hcl := ho.call w key k hi
    have HO := hid hO
    have hm2 : l.many ≤ 70368744177663 ∧ r.many ≤ 70368744177663 ∧ l.many + r.many ≤ 70368744177663 := by simp only [Tr.many] at hm; omega
    have IL := hid ihl
    have IR := hid ihr
    have HC := hid hc
    have HF := hid hf
    obtain ⟨cv, hcv⟩ : ∃ cv, c key k = cv := ⟨_, rfl⟩
    rw [hcv] at hcl
    have HCV := hid hcv
    have HCL := hid hcl
    clear hh hd hk hi hO hc hf ihl ihr hcl hcv hm
    show Calls _ _ #[.pointer (some ⟨b, 0, none⟩), _, _, _, _] _ _
    go_enter Try.func136, Try.ntmps136
    go_wp2_with fail
    refine HCL.out.mono ?_
    rintro e w1 ⟨rfl, q, rfl⟩
    generalize hW : World.drewN w q = W
    have sz : w.heap.size = W.heap.size := by rw [← hW]; rfl
    have H1 : Held ek ev W (.node b l k v r) := by rw [← hW]; exact HH.out.drewN q
    have w1 : Wrote (fun x => x = O ∨ x ∈ (Tr.node b l k v r).blocks) w W := by rw [← hW]; exact (Wrote.refl _ w).drewN q
    have o1 : W.cell? ⟨O, 0, none⟩ = some (.slice old.1 old.2.1 old.2.2) := by rw [← hW]; exact HC.out
    have hOl := World.block_lt_of_cell? _ _ o1
    simp only at hOl
    have f1 : W.frozen? ⟨O, 0, none⟩ = false := by rw [← hW]; exact HF.out
    have i1 : I W := ho.keep _ _ _ (show Wrote (fun _ => False) w W by rw [← hW]; exact (Wrote.refl _ w).drewN q) (fun _ h => h.elim) HI.out
    clear hW HH HC HF HI HCL
    have hd := HD.out
    simp only [Tr.blocks, List.nodup_cons, List.nodup_append, List.mem_append, not_or] at hd
    have hO := HO.out
    simp only [Tr.blocks, List.mem_cons, List.mem_append, not_or] at hO
    have hK : (¬ K b) ∧ (∀ x ∈ l.blocks, ¬ K x) ∧ (∀ x ∈ r.blocks, ¬ K x) := ⟨HK.out b (by simp [Tr.blocks]), fun x hx => HK.out x (by simp [Tr.blocks, hx]), fun x hx => HK.out x (by simp [Tr.blocks, hx])⟩
    rcases Int.lt_trichotomy cv 0 with g1 | g1 | g1
    · have HE : Hid (∀ nb, Tr.put c key val nb (.node b l k v r) = Tr.level b (Tr.put c key val nb l) k v r) := fun nb => by show (if c key k < 0 then _ else _) = _; rw [if_pos (by rw [HCV.out]; exact g1)]
      have HG : Hid (Tr.get c key (.node b l k v r) = Tr.get c key l) := by show (if c key k < 0 then _ else _) = _; rw [if_pos (by rw [HCV.out]; exact g1)]
      have hc := IL.out W old H1.2.1 hd.2.1 (by omega) hO.2.1 o1 f1 i1 hK.2.1
      have c2 := H1.1.c2
      have HC := hid hc
      have H2 := hid H1
      have W1 := hid w1
      have HDD := hid hd
      have HOO := hid hO
      have HKK := hid hK
      clear hc H1 w1 o1 f1 i1 hd hO hK
      go_wp2_with fail
      refine HC.out.mono ?_
      rintro e W3 ⟨nb, g2, rfl, g3, g4, g5⟩
      have nlt : ∀ x ∈ (Tr.node b l k v r).blocks, x ≠ nb := fun x hx => by have := H2.out.lt x hx; omega
      have n3 : NodeAt W3 b (ek k) (ev v) l.ptr r.ptr _ _ := H2.out.1.wrote g4 (fun e => e.elim (fun e => HOO.out.1 e.symm) HDD.out.1.1)
      have r3 : Held ek ev W3 r := H2.out.2.2.wrote g4 (fun x hx e => e.elim (fun e => HOO.out.2.2 (e ▸ hx)) (fun e => HDD.out.2.2.2 x e x hx rfl))
      have c3 := n3.c2
      have f3 := n3.fz 2
      have N3 := hid n3
      have R3 := hid r3
      have L3 := hid g3
      have O3 := hid g5
      have G2 := hid g2
      have NLT := hid nlt
      have W2 := hid (W1.out.step g4 (fun x hx => .inl (hx.imp id (fun hx => by simp [Tr.blocks, hx]))))
      clear g2 g3 g4 g5 nlt n3 r3 HC
      go_wp2_with fail
      generalize hW4 : World.setCell W3 _ _ = W4
      have n4 := N3.out.set2 (Tr.put c key val nb l).ptr
      rw [show W3.setCell ⟨b, 2, none⟩ (Tr.put c key val nb l).ptr = W4 from hW4] at n4
      have hbl : b ∉ (Tr.put c key val nb l).blocks := fun h => (Tr.put_mem key val nb l b h).elim (fun e => NLT.out b (by simp [Tr.blocks]) e) HDD.out.1.1
      have l4 : Held ek ev W4 (Tr.put c key val nb l) := by rw [← hW4]; exact L3.out.setCell hbl _
      have r4 : Held ek ev W4 r := by rw [← hW4]; exact R3.out.setCell HDD.out.1.2 _
      have o4 : W4.cell? ⟨O, 0, none⟩ = some (.slice ((Tr.get c key l).getD old).1 ((Tr.get c key l).getD old).2.1 ((Tr.get c key l).getD old).2.2) := by rw [← hW4]; exact (World.cell?_setCell_other _ _ _ _ (fun e => HOO.out.1 (by injection e with e; exact e.symm))).trans O3.out
      have w4 : Wrote (fun x => x = O ∨ x ∈ (Tr.node b l k v r).blocks) w W4 := by rw [← hW4]; exact W2.out.setCell (p := ⟨b, 2, none⟩) (.inl (.inr (by simp [Tr.blocks]))) _
      have nd : (b :: ((Tr.put c key val nb l).blocks ++ r.blocks)).Nodup := by
        refine List.nodup_cons.2 ⟨fun h => (List.mem_append.1 h).elim hbl HDD.out.1.2, List.nodup_append.2 ⟨Tr.put_nodup key val nb (fun h => NLT.out nb (by simp [Tr.blocks, h]) rfl) HDD.out.2.1, HDD.out.2.2.1, fun x hx y hy e => ?_⟩⟩
        rcases Tr.put_mem key val nb l x hx with h | h
        · exact NLT.out y (by simp [Tr.blocks, hy]) (e ▸ h)
        · exact HDD.out.2.2.2 x h y hy e
      have hpm := Tr.put_many (c := c) key val nb l
      have O4 := hid o4
      have W4' := hid w4
      clear hW4 o4 w4
      refine (level_any W4 b k v (Tr.put c key val nb l) r _ _ n4 l4 r4 nd (by omega)).mono ?_
      rintro e W5 ⟨rfl, g3, g4⟩
      have G3 := hid g3
      have G4 := hid g4
      clear n4 l4 r4 nd g3 g4
      go_wp2_with fail
      go_ret2
      refine ⟨nb, by have := G2.out; omega, by rw [HE.out, HG.out]; rfl, by rw [HE.out]; exact G3.out, W4'.out.step G4.out ?_, ?_⟩
      · rintro x (rfl | hx | hx)
        · exact .inl (.inr (by simp [Tr.blocks]))
        · rcases Tr.put_mem key val nb l x hx with e | hx
          · exact .inr (by have := G2.out; omega)
          · exact .inl (.inr (by simp [Tr.blocks, hx]))
        · exact .inl (.inr (by simp [Tr.blocks, hx]))
      · rw [HG.out]
        refine G4.out.cell ?_ O4.out
        rintro (e | hx | hx)
        · exact HOO.out.1 e
        · rcases Tr.put_mem key val nb l O hx with e | hx
          · have := G2.out; omega
          · exact HOO.out.2.1 hx
        · exact HOO.out.2.2 hx
    · have HE : Hid (∀ nb, Tr.put c key val nb (.node b l k v r) = .node b l k val r) := fun nb => by show (if c key k < 0 then _ else if 0 < c key k then _ else _) = _; rw [if_neg (by rw [HCV.out]; omega), if_neg (by rw [HCV.out]; omega)]
      have HG : Hid (Tr.get c key (.node b l k v r) = some v) := by show (if c key k < 0 then _ else if 0 < c key k then _ else _) = _; rw [if_neg (by rw [HCV.out]; omega), if_neg (by rw [HCV.out]; omega)]
      have c1 := H1.1.c1
      have fb := H1.1.fz 1
      have H2 := hid H1
      have W1 := hid w1
      have hbO : O ≠ b := hO.1
      have HDD := hid hd
      have HOO := hid hO
      clear H1 w1 i1 hd hO hK
      go_wp2_with fail
      go_ret2
      refine ⟨W.heap.size, by omega, by rw [HE.out, HG.out]; rfl, ?_, ?_, ?_⟩
      · rw [HE.out]
        exact ⟨(H2.out.1.other (p := ⟨O, 0, none⟩) hbO _).set1 _, (H2.out.2.1.setCell (p := ⟨O, 0, none⟩) HOO.out.2.1 _).setCell (p := ⟨b, 1, none⟩) HDD.out.1.1 _, (H2.out.2.2.setCell (p := ⟨O, 0, none⟩) HOO.out.2.2 _).setCell (p := ⟨b, 1, none⟩) HDD.out.1.2 _⟩
      · exact (W1.out.setCell (p := ⟨O, 0, none⟩) (.inl (.inl rfl)) _).setCell (p := ⟨b, 1, none⟩) (.inl (.inr (by simp [Tr.blocks]))) _
      · rw [HG.out]
        exact (World.cell?_setCell_other _ _ _ _ (fun e => HOO.out.1 (by injection e with e; exact e.symm))).trans (World.cell?_setCell_same _ _ _ o1)
    · have HE : Hid (∀ nb, Tr.put c key val nb (.node b l k v r) = Tr.level b l k v (Tr.put c key val nb r)) := fun nb => by show (if c key k < 0 then _ else if 0 < c key k then _ else _) = _; rw [if_neg (by rw [HCV.out]; omega), if_pos (by rw [HCV.out]; exact g1)]
      have HG : Hid (Tr.get c key (.node b l k v r) = Tr.get c key r) := by show (if c key k < 0 then _ else if 0 < c key k then _ else _) = _; rw [if_neg (by rw [HCV.out]; omega), if_pos (by rw [HCV.out]; exact g1)]
      have hc := IR.out W old H1.2.2 hd.2.2.1 (by omega) hO.2.2 o1 f1 i1 hK.2.2
      have c3 := H1.1.c3
      have HC := hid hc
      have H2 := hid H1
      have W1 := hid w1
      have HDD := hid hd
      have HOO := hid hO
      have HKK := hid hK
      clear hc H1 w1 o1 f1 i1 hd hO hK
      go_wp2_with fail
      refine HC.out.mono ?_
      rintro e W3 ⟨nb, g2, rfl, g3, g4, g5⟩
      have nlt : ∀ x ∈ (Tr.node b l k v r).blocks, x ≠ nb := fun x hx => by have := H2.out.lt x hx; omega
      have n3 : NodeAt W3 b (ek k) (ev v) l.ptr r.ptr _ _ := H2.out.1.wrote g4 (fun e => e.elim (fun e => HOO.out.1 e.symm) HDD.out.1.2)
      have l3 : Held ek ev W3 l := H2.out.2.1.wrote g4 (fun x hx e => e.elim (fun e => HOO.out.2.1 (e ▸ hx)) (fun e => HDD.out.2.2.2 x hx x e rfl))
      have c3' := n3.c3
      have f3 := n3.fz 3
      have N3 := hid n3
      have L3 := hid l3
      have R3 := hid g3
      have O3 := hid g5
      have G2 := hid g2
      have NLT := hid nlt
      have W2 := hid (W1.out.step g4 (fun x hx => .inl (hx.imp id (fun hx => by simp [Tr.blocks, hx]))))
      clear g2 g3 g4 g5 nlt n3 l3 HC c3
      go_wp2_with fail
      generalize hW4 : World.setCell W3 _ _ = W4
      have n4 := N3.out.set3 (Tr.put c key val nb r).ptr
      rw [show W3.setCell ⟨b, 3, none⟩ (Tr.put c key val nb r).ptr = W4 from hW4] at n4
      have hbr : b ∉ (Tr.put c key val nb r).blocks := fun h => (Tr.put_mem key val nb r b h).elim (fun e => NLT.out b (by simp [Tr.blocks]) e) HDD.out.1.2
      have r4 : Held ek ev W4 (Tr.put c key val nb r) := by rw [← hW4]; exact R3.out.setCell hbr _
      have l4 : Held ek ev W4 l := by rw [← hW4]; exact L3.out.setCell HDD.out.1.1 _
      have o4 : W4.cell? ⟨O, 0, none⟩ = some (.slice ((Tr.get c key r).getD old).1 ((Tr.get c key r).getD old).2.1 ((Tr.get c key r).getD old).2.2) := by rw [← hW4]; exact (World.cell?_setCell_other _ _ _ _ (fun e => HOO.out.1 (by injection e with e; exact e.symm))).trans O3.out
      have w4 : Wrote (fun x => x = O ∨ x ∈ (Tr.node b l k v r).blocks) w W4 := by rw [← hW4]; exact W2.out.setCell (p := ⟨b, 3, none⟩) (.inl (.inr (by simp [Tr.blocks]))) _
      have nd : (b :: (l.blocks ++ (Tr.put c key val nb r).blocks)).Nodup := by
        refine List.nodup_cons.2 ⟨fun h => (List.mem_append.1 h).elim HDD.out.1.1 hbr, List.nodup_append.2 ⟨HDD.out.2.1, Tr.put_nodup key val nb (fun h => NLT.out nb (by simp [Tr.blocks, h]) rfl) HDD.out.2.2.1, fun x hx y hy e => ?_⟩⟩
        rcases Tr.put_mem key val nb r y hy with h | h
        · exact NLT.out x (by simp [Tr.blocks, hx]) (e ▸ h)
        · exact HDD.out.2.2.2 x hx y h e
      have hpm := Tr.put_many (c := c) key val nb r
      have O4 := hid o4
      have W4' := hid w4
      clear hW4 o4 w4
      refine (level_any W4 b k v l (Tr.put c key val nb r) _ _ n4 l4 r4 nd (by omega)).mono ?_
      rintro e W5 ⟨rfl, g3, g4⟩
      have G3 := hid g3
      have G4 := hid g4
      clear n4 l4 r4 nd g3 g4
      go_wp2_with fail
      go_ret2
      refine ⟨nb, by have := G2.out; omega, by rw [HE.out, HG.out]; rfl, by rw [HE.out]; exact G3.out, W4'.out.step G4.out ?_, ?_⟩
      · rintro x (rfl | hx | hx)
        · exact .inl (.inr (by simp [Tr.blocks]))
        · exact .inl (.inr (by simp [Tr.blocks, hx]))
        · rcases Tr.put_mem key val nb r x hx with e | hx
          · exact .inr (by have := G2.out; omega)
          · exact .inl (.inr (by simp [Tr.blocks, hx]))
      · rw [HG.out]
        refine G4.out.cell ?_ O4.out
        rintro (e | hx | hx)
        · exact HOO.out.1 e
        · exact HOO.out.2.1 hx
        · rcases Tr.put_mem key val nb r O hx with e | hx
          · have := G2.out; omega
          · exact HOO.out.2.2 hx
end TU
end Go.Proofs.Ytfjeagffdijcoaa
namespace Go.Proofs.Ytfjeagffdijcoaa
namespace TU
open Go.RowKit

set_option maxRecDepth 100000 in
set_option maxHeartbeats 1000000 in
theorem first_any : ∀ (l : Tr Int SV) (b : Nat) (k : Int) (v : SV) (r : Tr Int SV) (w : World), Held ek ev w (.node b l k v r) → (Tr.node b l k v r).blocks.Nodup → (Tr.node b l k v r).many ≤ 140737488355328 →
    Calls Try.prog 173 #[.pointer (some ⟨b, 0, none⟩)] w fun e w' =>
      e = .returned (.tuple #[.pointer (some ⟨(Tr.least b l k v r).1.1, 0, none⟩), (Tr.least b l k v r).2.ptr]) ∧ Held ek ev w' (Tr.least b l k v r).2 ∧
        (∃ x y h n, NodeAt w' (Tr.least b l k v r).1.1 (ek (Tr.least b l k v r).1.2.1) (ev (Tr.least b l k v r).1.2.2) x y h n) ∧ Wrote (fun x => x ∈ (Tr.node b l k v r).blocks) w w' := by
  intro l
  induction l with
  | nil =>
    intro b k v r w hh hd _
    have c2 : w.cell? ⟨b, 2, none⟩ = some (.pointer none) := hh.1.c2
    have c3 := hh.1.c3
    have HH := hid hh
    clear hh hd
    go_enter Try.func173, Try.ntmps173
    go_wp2_with fail
    go_quiet (fail)
    go_wp2_with fail
    go_ret2
    exact ⟨rfl, HH.out.2.2.drewN _, ⟨_, _, _, _, HH.out.1.drewN _⟩, (Wrote.refl _ w).drewN _⟩
  | node lb ll lk lv lr ihl _ =>
    intro b k v r w hh hd hm
    have hm2 : (Tr.node lb ll lk lv lr).many + r.many ≤ 140737488355327 := by simp only [Tr.many] at hm ⊢; omega
    have hd2 := hd
    simp only [Tr.blocks] at hd2
    obtain ⟨n1, n2⟩ := List.nodup_cons.1 hd2
    obtain ⟨n3, n4, n5⟩ := List.nodup_append.1 n2
    have hc := ihl lb lk lv lr w hh.2.1 n3 (by omega)
    have c2 : w.cell? ⟨b, 2, none⟩ = some (.pointer (some ⟨lb, 0, none⟩)) := hh.1.c2
    have HH := hid hh
    have HC := hid hc
    have HD := hid hd
    have N1 := hid n1
    have N4 := hid n4
    have N5 := hid n5
    have N3 := hid n3
    have hlm := Tr.least_many ll lb lk lv lr
    have hlb := Tr.least_blocks ll lb lk lv lr
    have HLB := hid hlb
    have e2 : Tr.least b (.node lb ll lk lv lr) k v r = ((Tr.least lb ll lk lv lr).1, Tr.level b (Tr.least lb ll lk lv lr).2 k v r) := rfl
    rw [e2]
    clear hh hd hd2 n1 n2 n3 n4 n5 hc hlb ihl e2
    generalize Tr.least lb ll lk lv lr = X at *
    obtain ⟨⟨xb, xk, xv⟩, xt⟩ := X
    simp only at *
    go_enter Try.func173, Try.ntmps173
    go_wp2_with fail
    refine HC.out.mono ?_
    rintro e w1 ⟨rfl, g1, ⟨x, y, h, n, g2⟩, g3⟩
    have hbs : b ∉ (Tr.node lb ll lk lv lr).blocks := fun h => N1.out (List.mem_append_left _ h)
    have n1 := HH.out.1.wrote g3 hbs
    have r1 := HH.out.2.2.wrote g3 (fun x hx hx2 => N5.out x hx2 x hx rfl)
    have c2' := n1.c2
    have f2 := n1.fz 2
    have G1 := hid g1
    have G2 := hid g2
    have G3 := hid (g3.mono (S' := fun x => x ∈ (Tr.node b (Tr.node lb ll lk lv lr) k v r).blocks) (fun x hx => List.mem_cons_of_mem _ (List.mem_append_left _ hx)))
    have NN := hid n1
    have RR := hid r1
    have HBS := hid hbs
    clear g1 g2 g3 n1 r1 hbs c2
    go_wp2_with fail
    generalize hW4 : World.setCell w1 _ _ = W4
    have n4 := NN.out.set2 xt.ptr
    rw [show w1.setCell ⟨b, 2, none⟩ xt.ptr = W4 from hW4] at n4
    have hsub : ∀ z ∈ xb :: xt.blocks, z ∈ (Tr.node lb ll lk lv lr).blocks := fun z hz => HLB.out.mem_iff.1 hz
    have hxb : xb ∈ (Tr.node lb ll lk lv lr).blocks := hsub xb (by simp)
    have hbx : b ∉ xt.blocks := fun h => HBS.out (hsub b (List.mem_cons_of_mem _ h))
    have hnd := List.nodup_cons.1 (HLB.out.nodup_iff.2 N3.out)
    have l4 : Held ek ev W4 xt := by rw [← hW4]; exact G1.out.setCell hbx _
    have r4 : Held ek ev W4 r := by rw [← hW4]; exact RR.out.setCell (fun h => N1.out (List.mem_append_right _ h)) _
    have x4 : NodeAt W4 xb (ek xk) (ev xv) x y h n := by rw [← hW4]; exact G2.out.other (p := ⟨b, 2, none⟩) (fun e => HBS.out (by simp only at e; rw [e]; exact hxb)) _
    have w4 : Wrote (fun x => x ∈ (Tr.node b (Tr.node lb ll lk lv lr) k v r).blocks) w W4 := by rw [← hW4]; exact G3.out.setCell (p := ⟨b, 2, none⟩) (.inl (List.mem_cons_self ..)) _
    have nd : (b :: (xt.blocks ++ r.blocks)).Nodup := List.nodup_cons.2 ⟨fun h => (List.mem_append.1 h).elim hbx (fun h => N1.out (List.mem_append_right _ h)), List.nodup_append.2 ⟨hnd.2, N4.out, fun z hz y hy => N5.out z (hsub z (List.mem_cons_of_mem _ hz)) y hy⟩⟩
    have X4 := hid x4
    have W4' := hid w4
    have HS := hid hsub
    have HXB := hid hxb
    have HND := hid hnd
    clear hW4 x4 w4 hsub hxb hnd hbx
    refine (level_any W4 b k v xt r _ _ n4 l4 r4 nd (by omega)).mono ?_
    rintro e W5 ⟨rfl, g3, g4⟩
    have G3' := hid g3
    have G4' := hid g4
    clear n4 l4 r4 nd g3 g4
    go_wp2_with fail
    go_ret2
    refine ⟨rfl, G3'.out, ⟨x, y, h, n, X4.out.wrote G4'.out ?_⟩, W4'.out.step G4'.out ?_⟩
    · rintro (e | e | e)
      · exact HBS.out (e ▸ HXB.out)
      · exact HND.out.1 e
      · exact N5.out _ HXB.out _ e rfl
    · rintro z (rfl | hz | hz)
      · exact .inl (List.mem_cons_self ..)
      · exact .inl (List.mem_cons_of_mem _ (List.mem_append_left _ (HS.out z (List.mem_cons_of_mem _ hz))))
      · exact .inl (List.mem_cons_of_mem _ (List.mem_append_right _ hz))
end TU
end Go.Proofs.Ytfjeagffdijcoaa
namespace Go.Proofs.Ytfjeagffdijcoaa
namespace TU
open Go.RowKit

set_option maxRecDepth 100000 in
set_option maxHeartbeats 2000000 in
theorem cut_any (g : Nat) (cb : Array Value) (c : Int → Int → Int) (I : World → Prop) (K : Nat → Prop) (ho : OrdFn g cb c I K) (key : Int) (O : Nat) : ∀ (t : Tr Int SV) (w : World) (old : SV), Held ek ev w t → t.blocks.Nodup → t.bal → t.many ≤ 70368744177664 → O ∉ t.blocks →
    w.cell? ⟨O, 0, none⟩ = some (.slice old.1 old.2.1 old.2.2) → w.frozen? ⟨O, 0, none⟩ = false → I w → (∀ x ∈ t.blocks, ¬ K x) →
    Calls Try.prog 167 #[t.ptr, ordV g cb, .int .u64 key, .pointer (some ⟨O, 0, none⟩)] w fun e w' =>
      e = .returned (.tuple #[(Tr.cut c key t).ptr, .bool (Tr.get c key t).isSome]) ∧ Held ek ev w' (Tr.cut c key t) ∧ Wrote (fun x => x = O ∨ x ∈ t.blocks) w w' ∧
        w'.cell? ⟨O, 0, none⟩ = some (.slice ((Tr.get c key t).getD old).1 ((Tr.get c key t).getD old).2.1 ((Tr.get c key t).getD old).2.2) := by
  intro t
  have eg := ho.eg
  induction t with
  | nil =>
    intro w old _ _ _ _ _ hO _ _ _
    have HO := hid hO
    clear hO
    show Calls _ _ #[.pointer none, _, _, _] _ _
    go_enter Try.func167, Try.ntmps167
    go_wp2_with fail
    go_ret2
    exact ⟨rfl, trivial, Wrote.refl _ _, HO.out⟩
  | node b l k v r ihl ihr =>
    intro w old hh hd hb hm hO hc hf hi hk
    have HH := hid hh
    have HD := hid hd
    have HBal := hid hb
    have HK := hid hk
    have HI := hid hi
    have hkey := hh.1.c0
    have hcl := ho.call w key k hi
    have HO := hid hO
    have hm2 : l.many ≤ 70368744177663 ∧ r.many ≤ 70368744177663 ∧ l.many + r.many ≤ 70368744177663 := by simp only [Tr.many] at hm; omega
    have IL := hid ihl
    have IR := hid ihr
    have HC := hid hc
    have HF := hid hf
    obtain ⟨cv, hcv⟩ : ∃ cv, c key k = cv := ⟨_, rfl⟩
    rw [hcv] at hcl
    have HCV := hid hcv
    have HCL := hid hcl
    clear hh hd hb hk hi hO hc hf ihl ihr hcl hcv hm
    show Calls _ _ #[.pointer (some ⟨b, 0, none⟩), _, _, _] _ _
    go_enter Try.func167, Try.ntmps167
    go_wp2_with fail
    refine HCL.out.mono ?_
    rintro e w1 ⟨rfl, q, rfl⟩
    generalize hW : World.drewN w q = W
    have sz : w.heap.size = W.heap.size := by rw [← hW]; rfl
    have H1 : Held ek ev W (.node b l k v r) := by rw [← hW]; exact HH.out.drewN q
    have w1 : Wrote (fun x => x = O ∨ x ∈ (Tr.node b l k v r).blocks) w W := by rw [← hW]; exact (Wrote.refl _ w).drewN q
    have o1 : W.cell? ⟨O, 0, none⟩ = some (.slice old.1 old.2.1 old.2.2) := by rw [← hW]; exact HC.out
    have hOl := World.block_lt_of_cell? _ _ o1
    simp only at hOl
    have f1 : W.frozen? ⟨O, 0, none⟩ = false := by rw [← hW]; exact HF.out
    have i1 : I W := ho.keep _ _ _ (show Wrote (fun _ => False) w W by rw [← hW]; exact (Wrote.refl _ w).drewN q) (fun _ h => h.elim) HI.out
    clear hW HH HC HF HI HCL
    have hd := HD.out
    simp only [Tr.blocks, List.nodup_cons, List.nodup_append, List.mem_append, not_or] at hd
    have hO := HO.out
    simp only [Tr.blocks, List.mem_cons, List.mem_append, not_or] at hO
    have hK : (¬ K b) ∧ (∀ x ∈ l.blocks, ¬ K x) ∧ (∀ x ∈ r.blocks, ¬ K x) := ⟨HK.out b (by simp [Tr.blocks]), fun x hx => HK.out x (by simp [Tr.blocks, hx]), fun x hx => HK.out x (by simp [Tr.blocks, hx])⟩
    rcases Int.lt_trichotomy cv 0 with g1 | g1 | g1
    · have HE : Hid (Tr.cut c key (.node b l k v r) = Tr.level b (Tr.cut c key l) k v r) := by show (if c key k < 0 then _ else _) = _; rw [if_pos (by rw [HCV.out]; exact g1)]
      have HG : Hid (Tr.get c key (.node b l k v r) = Tr.get c key l) := by show (if c key k < 0 then _ else _) = _; rw [if_pos (by rw [HCV.out]; exact g1)]
      have hc := IL.out W old H1.2.1 hd.2.1 HBal.out.1 (by omega) hO.2.1 o1 f1 i1 hK.2.1
      have c2 := H1.1.c2
      have HC := hid hc
      have H2 := hid H1
      have W1 := hid w1
      have HDD := hid hd
      have HOO := hid hO
      have HKK := hid hK
      clear hc H1 w1 o1 f1 i1 hd hO hK
      go_wp2_with fail
      refine HC.out.mono ?_
      rintro e W3 ⟨rfl, g3, g4, g5⟩
      have n3 : NodeAt W3 b (ek k) (ev v) l.ptr r.ptr _ _ := H2.out.1.wrote g4 (fun e => e.elim (fun e => HOO.out.1 e.symm) HDD.out.1.1)
      have r3 : Held ek ev W3 r := H2.out.2.2.wrote g4 (fun x hx e => e.elim (fun e => HOO.out.2.2 (e ▸ hx)) (fun e => HDD.out.2.2.2 x e x hx rfl))
      have c3 := n3.c2
      have f3 := n3.fz 2
      have N3 := hid n3
      have R3 := hid r3
      have L3 := hid g3
      have O3 := hid g5
      have W2 := hid (W1.out.step g4 (fun x hx => .inl (hx.imp id (fun hx => by simp [Tr.blocks, hx]))))
      clear g3 g4 g5 n3 r3 HC
      go_wp2_with fail
      generalize hW4 : World.setCell W3 _ _ = W4
      have n4 := N3.out.set2 (Tr.cut c key l).ptr
      rw [show W3.setCell ⟨b, 2, none⟩ (Tr.cut c key l).ptr = W4 from hW4] at n4
      have hbl : b ∉ (Tr.cut c key l).blocks := fun h => HDD.out.1.1 (Tr.cut_blocks key HBal.out.1 b h)
      have l4 : Held ek ev W4 (Tr.cut c key l) := by rw [← hW4]; exact L3.out.setCell hbl _
      have r4 : Held ek ev W4 r := by rw [← hW4]; exact R3.out.setCell HDD.out.1.2 _
      have o4 : W4.cell? ⟨O, 0, none⟩ = some (.slice ((Tr.get c key l).getD old).1 ((Tr.get c key l).getD old).2.1 ((Tr.get c key l).getD old).2.2) := by rw [← hW4]; exact (World.cell?_setCell_other _ _ _ _ (fun e => HOO.out.1 (by injection e with e; exact e.symm))).trans O3.out
      have w4 : Wrote (fun x => x = O ∨ x ∈ (Tr.node b l k v r).blocks) w W4 := by rw [← hW4]; exact W2.out.setCell (p := ⟨b, 2, none⟩) (.inl (.inr (by simp [Tr.blocks]))) _
      have nd : (b :: ((Tr.cut c key l).blocks ++ r.blocks)).Nodup := by
        refine List.nodup_cons.2 ⟨fun h => (List.mem_append.1 h).elim hbl HDD.out.1.2, List.nodup_append.2 ⟨Tr.cut_nodup key HBal.out.1 HDD.out.2.1, HDD.out.2.2.1, fun x hx y hy e => HDD.out.2.2.2 x (Tr.cut_blocks key HBal.out.1 x hx) y hy e⟩⟩
      have hpm := Tr.cut_many (c := c) key HBal.out.1
      have O4 := hid o4
      have W4' := hid w4
      clear hW4 o4 w4
      refine (level_any W4 b k v (Tr.cut c key l) r _ _ n4 l4 r4 nd (by omega)).mono ?_
      rintro e W5 ⟨rfl, g3, g4⟩
      have G3 := hid g3
      have G4 := hid g4
      clear n4 l4 r4 nd g3 g4
      go_wp2_with fail
      go_ret2
      refine ⟨by rw [HE.out, HG.out]; rfl, by rw [HE.out]; exact G3.out, W4'.out.step G4.out ?_, ?_⟩
      · rintro x (rfl | hx | hx)
        · exact .inl (.inr (by simp [Tr.blocks]))
        · have hx := Tr.cut_blocks key HBal.out.1 x hx
          exact .inl (.inr (by simp [Tr.blocks, hx]))
        · exact .inl (.inr (by simp [Tr.blocks, hx]))
      · rw [HG.out]
        refine G4.out.cell ?_ O4.out
        rintro (e | hx | hx)
        · exact HOO.out.1 e
        · exact HOO.out.2.1 (Tr.cut_blocks key HBal.out.1 O hx)
        · exact HOO.out.2.2 hx
    · have HG : Hid (Tr.get c key (.node b l k v r) = some v) := by show (if c key k < 0 then _ else if 0 < c key k then _ else _) = _; rw [if_neg (by rw [HCV.out]; omega), if_neg (by rw [HCV.out]; omega)]
      have HE : Hid (Tr.cut c key (.node b l k v r) = Tr.join l r) := by show (if c key k < 0 then _ else if 0 < c key k then _ else _) = _; rw [if_neg (by rw [HCV.out]; omega), if_neg (by rw [HCV.out]; omega)]
      have c1 := H1.1.c1
      have c2 := H1.1.c2
      have hbO : O ≠ b := hO.1
      have H2 := hid H1
      have W1 := hid w1
      have HDD := hid hd
      have HOO := hid hO
      have O1 := hid o1
      cases r with
      | nil =>
        have c3 : W.cell? ⟨b, 3, none⟩ = some (.pointer none) := H1.1.c3
        clear H1 w1 i1 hd hO hK
        go_wp2_with fail
        go_ret2
        refine ⟨by rw [HE.out, HG.out]; rfl, by rw [HE.out]; exact H2.out.2.1.setCell (p := ⟨O, 0, none⟩) HOO.out.2.1 _, W1.out.setCell (p := ⟨O, 0, none⟩) (.inl (.inl rfl)) _, ?_⟩
        rw [HG.out]
        exact World.cell?_setCell_same _ _ _ O1.out
      | node rb rl rk rv rr =>
        have c3 : W.cell? ⟨b, 3, none⟩ = some (.pointer (some ⟨rb, 0, none⟩)) := H1.1.c3
        clear H1 w1 i1 hd hO hK
        obtain ⟨W2, hW2⟩ : ∃ W2, W2 = W.setCell ⟨O, 0, none⟩ (.slice v.1 v.2.1 v.2.2) := ⟨_, rfl⟩
        have h2 : Held ek ev W2 (.node b l k v (.node rb rl rk rv rr)) := by rw [hW2]; exact H2.out.setCell (p := ⟨O, 0, none⟩) (by simp only [Tr.blocks, List.mem_cons, List.mem_append, not_or]; have := HOO.out; simp only [Tr.blocks, List.mem_cons, List.mem_append, not_or] at this; exact this) _
        have w2 : Wrote (fun x => x = O ∨ x ∈ (Tr.node b l k v (Tr.node rb rl rk rv rr)).blocks) w W2 := by rw [hW2]; exact W1.out.setCell (p := ⟨O, 0, none⟩) (.inl (.inl rfl)) _
        have o2 : W2.cell? ⟨O, 0, none⟩ = some (.slice v.1 v.2.1 v.2.2) := by rw [hW2]; exact World.cell?_setCell_same _ _ _ O1.out
        have hfi := first_any rl rb rk rv rr W2 h2.2.2 HDD.out.2.2.1 (by omega)
        have hlb := Tr.least_blocks rl rb rk rv rr
        have hlm := Tr.least_many rl rb rk rv rr
        have hje : Tr.join l (.node rb rl rk rv rr) = Tr.level (Tr.least rb rl rk rv rr).1.1 l (Tr.least rb rl rk rv rr).1.2.1 (Tr.least rb rl rk rv rr).1.2.2 (Tr.least rb rl rk rv rr).2 := rfl
        rw [hje] at HE
        have HFI := hid hfi
        have HLB := hid hlb
        have HH2 := hid h2
        have WW2 := hid w2
        have OO2 := hid o2
        have HW2 := hid hW2
        clear hfi hlb hje h2 w2 o2 hW2
        generalize Tr.least rb rl rk rv rr = X at *
        obtain ⟨⟨xb, xk, xv⟩, xt⟩ := X
        simp only at *
        go_wp2_with fail
        rw [← HW2.out]
        refine HFI.out.mono ?_
        rintro e W3 ⟨rfl, g1, ⟨x, y, h, n, g2⟩, g3⟩
        have hdl : ∀ z ∈ l.blocks, z ∉ (Tr.node rb rl rk rv rr).blocks := fun z hz hz2 => HDD.out.2.2.2 z hz z hz2 rfl
        have n3 := HH2.out.1.wrote g3 HDD.out.1.2
        have l3 := HH2.out.2.1.wrote g3 hdl
        have hsub : ∀ z ∈ xb :: xt.blocks, z ∈ (Tr.node rb rl rk rv rr).blocks := fun z hz => HLB.out.mem_iff.1 hz
        have hnd := List.nodup_cons.1 (HLB.out.nodup_iff.2 HDD.out.2.2.1)
        have hxb : xb ∈ (Tr.node rb rl rk rv rr).blocks := hsub xb (by simp)
        have w3 : Wrote (fun x => x = O ∨ x ∈ (Tr.node b l k v (Tr.node rb rl rk rv rr)).blocks) w W3 := WW2.out.step g3 (fun z hz => .inl (.inr (List.mem_cons_of_mem _ (List.mem_append_right _ hz))))
        have o3 := g3.cell (p := ⟨O, 0, none⟩) HOO.out.2.2 OO2.out
        have m2 := n3.c2
        have u2 := g2.c2
        have u3 := g2.c3
        have v2 := g2.fz 2
        have v3 := g2.fz 3
        have G1 := hid g1
        have G2 := hid g2
        have L3 := hid l3
        have W3' := hid w3
        have O3 := hid o3
        have HS := hid hsub
        have HN := hid hnd
        have HXB := hid hxb
        have HDL := hid hdl
        clear g1 g2 g3 n3 l3 w3 o3 hsub hnd hxb hdl HFI c1 c2 c3
        go_wp2_with fail
        generalize hW4 : World.setCell (World.setCell W3 _ _) _ _ = W4
        have x4 : NodeAt W4 xb (ek xk) (ev xv) l.ptr xt.ptr h n := by rw [← hW4]; exact (G2.out.set2 _).set3 _
        have hxl : xb ∉ l.blocks := fun hz => HDL.out xb hz HXB.out
        have l4 : Held ek ev W4 l := by rw [← hW4]; exact (L3.out.setCell (p := ⟨xb, 2, none⟩) hxl _).setCell (p := ⟨xb, 3, none⟩) hxl _
        have t4 : Held ek ev W4 xt := by rw [← hW4]; exact (G1.out.setCell (p := ⟨xb, 2, none⟩) HN.out.1 _).setCell (p := ⟨xb, 3, none⟩) HN.out.1 _
        have hxO : O ≠ xb := fun e => HOO.out.2.2 (e ▸ HXB.out)
        have o4 : W4.cell? ⟨O, 0, none⟩ = some (.slice v.1 v.2.1 v.2.2) := by rw [← hW4]; exact (World.cell?_setCell_other _ _ _ _ (fun e => hxO (by injection e with e; exact e.symm))).trans ((World.cell?_setCell_other _ _ _ _ (fun e => hxO (by injection e with e; exact e.symm))).trans O3.out)
        have hin : xb ∈ (Tr.node b l k v (Tr.node rb rl rk rv rr)).blocks := List.mem_cons_of_mem _ (List.mem_append_right _ HXB.out)
        have w4 : Wrote (fun x => x = O ∨ x ∈ (Tr.node b l k v (Tr.node rb rl rk rv rr)).blocks) w W4 := by rw [← hW4]; exact (W3'.out.setCell (p := ⟨xb, 2, none⟩) (.inl (.inr hin)) _).setCell (p := ⟨xb, 3, none⟩) (.inl (.inr hin)) _
        have nd : (xb :: (l.blocks ++ xt.blocks)).Nodup := List.nodup_cons.2 ⟨fun hz => (List.mem_append.1 hz).elim hxl HN.out.1, List.nodup_append.2 ⟨HDD.out.2.1, HN.out.2, fun z hz z2 hz2 e => HDL.out z hz (by rw [e]; exact HS.out z2 (List.mem_cons_of_mem _ hz2))⟩⟩
        have O4 := hid o4
        have W4' := hid w4
        have HXO := hid hxO
        have HIN := hid hin
        clear hW4 o4 w4 hxO hin hxl
        refine (level_any W4 xb xk xv l xt _ _ x4 l4 t4 nd (by omega)).mono ?_
        rintro e W5 ⟨rfl, g3, g4⟩
        have G3 := hid g3
        have G4 := hid g4
        clear x4 l4 t4 nd g3 g4
        go_wp2_with fail
        go_ret2
        refine ⟨by rw [HE.out, HG.out]; rfl, by rw [HE.out]; exact G3.out, W4'.out.step G4.out ?_, ?_⟩
        · rintro z (rfl | hz | hz)
          · exact .inl (.inr HIN.out)
          · exact .inl (.inr (List.mem_cons_of_mem _ (List.mem_append_left _ hz)))
          · exact .inl (.inr (List.mem_cons_of_mem _ (List.mem_append_right _ (HS.out z (List.mem_cons_of_mem _ hz)))))
        · rw [HG.out]
          refine G4.out.cell ?_ O4.out
          rintro (e | hz | hz)
          · exact HXO.out e
          · exact HOO.out.2.1 hz
          · exact HOO.out.2.2 (HS.out O (List.mem_cons_of_mem _ hz))
    · have HE : Hid (Tr.cut c key (.node b l k v r) = Tr.level b l k v (Tr.cut c key r)) := by show (if c key k < 0 then _ else if 0 < c key k then _ else _) = _; rw [if_neg (by rw [HCV.out]; omega), if_pos (by rw [HCV.out]; exact g1)]
      have HG : Hid (Tr.get c key (.node b l k v r) = Tr.get c key r) := by show (if c key k < 0 then _ else if 0 < c key k then _ else _) = _; rw [if_neg (by rw [HCV.out]; omega), if_pos (by rw [HCV.out]; exact g1)]
      have hc := IR.out W old H1.2.2 hd.2.2.1 HBal.out.2.1 (by omega) hO.2.2 o1 f1 i1 hK.2.2
      have c3 := H1.1.c3
      have HC := hid hc
      have H2 := hid H1
      have W1 := hid w1
      have HDD := hid hd
      have HOO := hid hO
      have HKK := hid hK
      clear hc H1 w1 o1 f1 i1 hd hO hK
      go_wp2_with fail
      refine HC.out.mono ?_
      rintro e W3 ⟨rfl, g3, g4, g5⟩
      have n3 : NodeAt W3 b (ek k) (ev v) l.ptr r.ptr _ _ := H2.out.1.wrote g4 (fun e => e.elim (fun e => HOO.out.1 e.symm) HDD.out.1.2)
      have l3 : Held ek ev W3 l := H2.out.2.1.wrote g4 (fun x hx e => e.elim (fun e => HOO.out.2.1 (e ▸ hx)) (fun e => HDD.out.2.2.2 x hx x e rfl))
      have c3' := n3.c3
      have f3 := n3.fz 3
      have N3 := hid n3
      have L3 := hid l3
      have R3 := hid g3
      have O3 := hid g5
      have W2 := hid (W1.out.step g4 (fun x hx => .inl (hx.imp id (fun hx => by simp [Tr.blocks, hx]))))
      clear g3 g4 g5 n3 l3 HC c3
      go_wp2_with fail
      generalize hW4 : World.setCell W3 _ _ = W4
      have n4 := N3.out.set3 (Tr.cut c key r).ptr
      rw [show W3.setCell ⟨b, 3, none⟩ (Tr.cut c key r).ptr = W4 from hW4] at n4
      have hbr : b ∉ (Tr.cut c key r).blocks := fun h => HDD.out.1.2 (Tr.cut_blocks key HBal.out.2.1 b h)
      have r4 : Held ek ev W4 (Tr.cut c key r) := by rw [← hW4]; exact R3.out.setCell hbr _
      have l4 : Held ek ev W4 l := by rw [← hW4]; exact L3.out.setCell HDD.out.1.1 _
      have o4 : W4.cell? ⟨O, 0, none⟩ = some (.slice ((Tr.get c key r).getD old).1 ((Tr.get c key r).getD old).2.1 ((Tr.get c key r).getD old).2.2) := by rw [← hW4]; exact (World.cell?_setCell_other _ _ _ _ (fun e => HOO.out.1 (by injection e with e; exact e.symm))).trans O3.out
      have w4 : Wrote (fun x => x = O ∨ x ∈ (Tr.node b l k v r).blocks) w W4 := by rw [← hW4]; exact W2.out.setCell (p := ⟨b, 3, none⟩) (.inl (.inr (by simp [Tr.blocks]))) _
      have nd : (b :: (l.blocks ++ (Tr.cut c key r).blocks)).Nodup := by
        refine List.nodup_cons.2 ⟨fun h => (List.mem_append.1 h).elim HDD.out.1.1 hbr, List.nodup_append.2 ⟨HDD.out.2.1, Tr.cut_nodup key HBal.out.2.1 HDD.out.2.2.1, fun x hx y hy e => HDD.out.2.2.2 x hx y (Tr.cut_blocks key HBal.out.2.1 y hy) e⟩⟩
      have hpm := Tr.cut_many (c := c) key HBal.out.2.1
      have O4 := hid o4
      have W4' := hid w4
      clear hW4 o4 w4
      refine (level_any W4 b k v l (Tr.cut c key r) _ _ n4 l4 r4 nd (by omega)).mono ?_
      rintro e W5 ⟨rfl, g3, g4⟩
      have G3 := hid g3
      have G4 := hid g4
      clear n4 l4 r4 nd g3 g4
      go_wp2_with fail
      go_ret2
      refine ⟨by rw [HE.out, HG.out]; rfl, by rw [HE.out]; exact G3.out, W4'.out.step G4.out ?_, ?_⟩
      · rintro x (rfl | hx | hx)
        · exact .inl (.inr (by simp [Tr.blocks]))
        · exact .inl (.inr (by simp [Tr.blocks, hx]))
        · have hx := Tr.cut_blocks key HBal.out.2.1 x hx
          exact .inl (.inr (by simp [Tr.blocks, hx]))
      · rw [HG.out]
        refine G4.out.cell ?_ O4.out
        rintro (e | hx | hx)
        · exact HOO.out.1 e
        · exact HOO.out.2.1 hx
        · exact HOO.out.2.2 (Tr.cut_blocks key HBal.out.2.1 O hx)
end TU
end Go.Proofs.Ytfjeagffdijcoaa
