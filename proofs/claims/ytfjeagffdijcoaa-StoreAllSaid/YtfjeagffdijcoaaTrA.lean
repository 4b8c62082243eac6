/- Layer 7: the walks of a node's height, count, measure, turns and level: ints. -/
import Derived.Test.YtfjeagffdijcoaaTrMem
import Derived.Test.YtfjeagffdijcoaaChecked
import Derived.StillTailTactics
namespace Go.Proofs.Ytfjeagffdijcoaa
namespace TI
open Go.RowKit

abbrev ek (k : Int) : Value := .int .i64 k
abbrev ev (v : Int) : Value := .int .i64 v

theorem height_any (w : World) (t : Tr Int Int) (h : Held ek ev w t) : Calls Try.prog 89 #[t.ptr] w fun e w' => e = .returned (.int .i64 t.high) ∧ w' = w := by
  cases t with
  | nil =>
    clear h
    show Calls _ _ #[.pointer none] _ _
    go_enter Try.func89, Try.ntmps89
    go_wp2_with fail
    go_ret
    exact ⟨rfl, rfl⟩
  | node b l k v r =>
    have c4 := h.1.c4
    clear h
    show Calls _ _ #[.pointer (some ⟨b, 0, none⟩)] _ _
    go_enter Try.func89, Try.ntmps89
    go_wp2_with fail
    go_ret
    exact ⟨rfl, rfl⟩

theorem count_any (w : World) (t : Tr Int Int) (h : Held ek ev w t) : Calls Try.prog 84 #[t.ptr] w fun e w' => e = .returned (.int .i64 t.many) ∧ w' = w := by
  cases t with
  | nil =>
    clear h
    show Calls _ _ #[.pointer none] _ _
    go_enter Try.func84, Try.ntmps84
    go_wp2_with fail
    go_ret
    exact ⟨rfl, rfl⟩
  | node b l k v r =>
    have c5 := h.1.c5
    clear h
    show Calls _ _ #[.pointer (some ⟨b, 0, none⟩)] _ _
    go_enter Try.func84, Try.ntmps84
    go_wp2_with fail
    go_ret
    exact ⟨rfl, rfl⟩

set_option maxRecDepth 100000 in
set_option maxHeartbeats 1000000 in
theorem measure_any (w : World) (b : Nat) (k v : Value) (l r : Tr Int Int) (x y : Int) (hn : NodeAt w b k v l.ptr r.ptr x y) (hl : Held ek ev w l) (hr : Held ek ev w r) (nl : b ∉ l.blocks) (nr : b ∉ r.blocks) (hm : l.many + r.many ≤ 1125899906842624) :
    Calls Try.prog 154 #[.pointer (some ⟨b, 0, none⟩)] w fun e w' => (∃ u, e = .returned u) ∧ NodeAt w' b k v l.ptr r.ptr (1 + max l.high r.high : Nat) (1 + l.many + r.many : Nat) ∧ Wrote (fun x => x = b) w w' := by
  have h1 := l.high_many
  have h2 := r.high_many
  have c2 := hn.c2
  have c3 := hn.c3
  have c4 := hn.c4
  have c5 := hn.c5
  have f4 := hn.fz 4
  have f5 := hn.fz 5
  have HL := hid hl
  have HR := hid hr
  have HN := hid hn
  have NL := hid nl
  have NR := hid nr
  clear hn hl hr nl nr
  go_enter Try.func154, Try.ntmps154
  go_wp2
  go_still_tail 13, (by kernel_rfl)
  still_call (height_any w.drew l (HL.out.drewN 1))
  repeat still_step
  still_call (height_any w.drew r (HR.out.drewN 1))
  repeat still_step
  refine wpStill_nil ?_
  change wpList _ _ _ _ _ w.drew
  go_wp2
  all_goals generalize hW1 : World.drew (World.setCell _ _ _) = W1
  all_goals have hN1 : NodeAt W1 b k v l.ptr r.ptr (1 + max l.high r.high : Nat) y := by first | (rw [show ((1 + max l.high r.high : Nat) : Int) = 1 + ↑l.high from (by omega), ← hW1]; exact (HN.out.set4 _).drewN 1) | (rw [show ((1 + max l.high r.high : Nat) : Int) = 1 + ↑r.high from (by omega), ← hW1]; exact (HN.out.set4 _).drewN 1)
  all_goals have hWr : Wrote (fun x => x = b) w W1 := by rw [← hW1]; exact ((Wrote.refl (fun x => x = b) w).setCell (p := ⟨b, 4, none⟩) (.inl rfl) _).drew
  all_goals clear c2 c3 c4 c5 f4 f5 hW1
  all_goals have c2 := hN1.c2
  all_goals have c3 := hN1.c3
  all_goals have c5 := hN1.c5
  all_goals have f5 := hN1.fz 5
  all_goals have HL1 := hid (HL.out.wrote hWr (fun x hx e => NL.out (e ▸ hx)))
  all_goals have HR1 := hid (HR.out.wrote hWr (fun x hx e => NR.out (e ▸ hx)))
  all_goals have HN1 := hid hN1
  all_goals have HWR := hid hWr
  all_goals clear hN1 hWr
  all_goals go_still_tail 13, (by kernel_rfl)
  all_goals still_call (count_any W1.drew l (HL1.out.drewN 1))
  all_goals repeat still_step
  all_goals still_call (count_any W1.drew r (HR1.out.drewN 1))
  all_goals repeat still_step
  all_goals refine wpStill_nil ?_
  all_goals change wpList _ _ _ _ _ W1.drew
  all_goals go_wp2
  all_goals go_end0
  all_goals refine ⟨⟨_, rfl⟩, ?_, (HWR.out.setCell (p := ⟨b, 5, none⟩) (.inl rfl) _).drew⟩
  all_goals rw [show ((1 + l.many + r.many : Nat) : Int) = 1 + ↑l.many + ↑r.many from (by omega)]
  all_goals exact (HN1.out.set5 _).drewN 1

set_option maxRecDepth 100000 in
theorem turnRight_any (w : World) (b : Nat) (k v : Int) (lb : Nat) (ll : Tr Int Int) (lk lv : Int) (lr r : Tr Int Int) (x y p q : Int) (hn : NodeAt w b (ek k) (ev v) (.pointer (some ⟨lb, 0, none⟩)) r.ptr x y) (hb : NodeAt w lb (ek lk) (ev lv) ll.ptr lr.ptr p q)
    (hl : Held ek ev w ll) (hm : Held ek ev w lr) (hr : Held ek ev w r) (hd : (b :: lb :: (ll.blocks ++ (lr.blocks ++ r.blocks))).Nodup) (hs : ll.many + lr.many + r.many ≤ 562949953421312) :
    Calls Try.prog 156 #[.pointer (some ⟨b, 0, none⟩)] w fun e w' => e = .returned (.pointer (some ⟨lb, 0, none⟩)) ∧ Held ek ev w' (.node lb ll lk lv (.node b lr k v r)) ∧ Wrote (fun x => x = b ∨ x = lb) w w' := by
  simp only [List.nodup_cons, List.nodup_append, List.mem_cons, List.mem_append, not_or] at hd
  obtain ⟨⟨d1, d2, d3, d4⟩, ⟨d5, d6, d7⟩, -⟩ := hd
  have c2 := hn.c2
  have c3 := hb.c3
  have f2 := hn.fz 2
  have f3 := hb.fz 3
  have HN := hid hn
  have HB := hid hb
  have HL := hid hl
  have HM := hid hm
  have HR := hid hr
  have D1 := hid d1
  have D := hid (show (b ∉ ll.blocks ∧ b ∉ lr.blocks ∧ b ∉ r.blocks) ∧ lb ∉ ll.blocks ∧ lb ∉ lr.blocks ∧ lb ∉ r.blocks from ⟨⟨d2, d3, d4⟩, d5, d6, d7⟩)
  clear hn hb hl hm hr d2 d3 d4 d5 d6 d7
  go_enter Try.func156, Try.ntmps156
  go_wp2_with fail
  generalize hWa : World.setCell (World.setCell _ _ _) _ _ = Wa
  have n1 : NodeAt Wa b (ek k) (ev v) lr.ptr r.ptr x y := by rw [← hWa]; exact (HN.out.set2 _).other (p := ⟨lb, 3, none⟩) (fun e => D1.out e.symm) _
  have n2 : NodeAt Wa lb (ek lk) (ev lv) ll.ptr (.pointer (some ⟨b, 0, none⟩)) p q := by rw [← hWa]; exact (HB.out.other (p := ⟨b, 2, none⟩) (fun e => D1.out e) _).set3 _
  have hW : Wrote (fun x => x = b ∨ x = lb) w Wa := by rw [← hWa]; exact ((Wrote.refl (fun x => x = b ∨ x = lb) w).setCell (p := ⟨b, 2, none⟩) (.inl (.inl rfl)) _).setCell (p := ⟨lb, 3, none⟩) (.inl (.inr rfl)) _
  have hk : ∀ t : Tr Int Int, (b ∉ t.blocks) → lb ∉ t.blocks → Held ek ev w t → Held ek ev Wa t := fun t t1 t2 ht => ht.wrote hW (fun x hx e => e.elim (fun e => t1 (e ▸ hx)) (fun e => t2 (e ▸ hx)))
  have l1 := hk ll D.out.1.1 D.out.2.1 HL.out
  have m1 := hk lr D.out.1.2.1 D.out.2.2.1 HM.out
  have r1 := hk r D.out.1.2.2 D.out.2.2.2 HR.out
  clear hk hWa
  have hms := measure_any Wa b (ek k) (ev v) lr r x y n1 m1 r1 D.out.1.2.1 D.out.1.2.2 (by omega)
  refine hms.mono ?_
  rintro e W2 ⟨⟨u, rfl⟩, g1, g2⟩
  have hB : Held ek ev W2 (.node b lr k v r) := ⟨g1, m1.wrote g2 (fun x hx e => D.out.1.2.1 (e ▸ hx)), r1.wrote g2 (fun x hx e => D.out.1.2.2 (e ▸ hx))⟩
  have n3 := n2.wrote g2 (fun e => D1.out e.symm)
  have l2 := l1.wrote g2 (fun x hx e => D.out.1.1 (e ▸ hx))
  have HB2 := hid hB
  have N3 := hid n3
  have L2 := hid l2
  have HW := hid (hW.step g2 (fun x hx => .inl (.inl hx)))
  clear hms n1 m1 r1 g1 g2 hB n3 n2 l1 l2 hW c2 c3 f2 f3
  go_wp2_with fail
  have hms := measure_any W2 lb (ek lk) (ev lv) ll (.node b lr k v r) p q N3.out L2.out HB2.out D.out.2.1 (by
    simp only [Tr.blocks, List.mem_cons, List.mem_append, not_or]
    exact ⟨fun e => D1.out e.symm, D.out.2.2.1, D.out.2.2.2⟩) (by simp only [Tr.many]; omega)
  refine hms.mono ?_
  rintro e W3 ⟨⟨u, rfl⟩, g1, g2⟩
  have hF : Held ek ev W3 (.node lb ll lk lv (.node b lr k v r)) := ⟨g1, L2.out.wrote g2 (fun x hx e => D.out.2.1 (e ▸ hx)), HB2.out.wrote g2 (fun x hx e => by
    rw [e] at hx
    simp only [Tr.blocks, List.mem_cons, List.mem_append] at hx
    rcases hx with hx | hx | hx
    · exact D1.out hx.symm
    · exact D.out.2.2.1 hx
    · exact D.out.2.2.2 hx)⟩
  have HF := hid hF
  have HW3 := hid (HW.out.step g2 (fun x hx => .inl (.inr hx)))
  clear hms g1 g2 hF
  go_wp2_with fail
  refine bodyPost_ret (results_tmp rfl _ _ _) rfl ?_
  exact ⟨rfl, HF.out, HW3.out⟩

set_option maxRecDepth 100000 in
theorem turnLeft_any (w : World) (b : Nat) (k v : Int) (rb : Nat) (rl : Tr Int Int) (rk rv : Int) (rr l : Tr Int Int) (x y p q : Int) (hn : NodeAt w b (ek k) (ev v) l.ptr (.pointer (some ⟨rb, 0, none⟩)) x y) (hb : NodeAt w rb (ek rk) (ev rv) rl.ptr rr.ptr p q)
    (hl : Held ek ev w rl) (hm : Held ek ev w rr) (hr : Held ek ev w l) (hd : (b :: rb :: (l.blocks ++ (rl.blocks ++ rr.blocks))).Nodup) (hs : l.many + rl.many + rr.many ≤ 562949953421312) :
    Calls Try.prog 155 #[.pointer (some ⟨b, 0, none⟩)] w fun e w' => e = .returned (.pointer (some ⟨rb, 0, none⟩)) ∧ Held ek ev w' (.node rb (.node b l k v rl) rk rv rr) ∧ Wrote (fun x => x = b ∨ x = rb) w w' := by
  simp only [List.nodup_cons, List.nodup_append, List.mem_cons, List.mem_append, not_or] at hd
  obtain ⟨⟨d1, d2, d3, d4⟩, ⟨d5, d6, d7⟩, -⟩ := hd
  have c3 := hn.c3
  have c2 := hb.c2
  have f3 := hn.fz 3
  have f2 := hb.fz 2
  have HN := hid hn
  have HB := hid hb
  have HL := hid hl
  have HM := hid hm
  have HR := hid hr
  have D1 := hid d1
  have D := hid (show (b ∉ l.blocks ∧ b ∉ rl.blocks ∧ b ∉ rr.blocks) ∧ rb ∉ l.blocks ∧ rb ∉ rl.blocks ∧ rb ∉ rr.blocks from ⟨⟨d2, d3, d4⟩, d5, d6, d7⟩)
  clear hn hb hl hm hr d2 d3 d4 d5 d6 d7
  go_enter Try.func155, Try.ntmps155
  go_wp2_with fail
  generalize hWa : World.setCell (World.setCell _ _ _) _ _ = Wa
  have n1 : NodeAt Wa b (ek k) (ev v) l.ptr rl.ptr x y := by rw [← hWa]; exact (HN.out.set3 _).other (p := ⟨rb, 2, none⟩) (fun e => D1.out e.symm) _
  have n2 : NodeAt Wa rb (ek rk) (ev rv) (.pointer (some ⟨b, 0, none⟩)) rr.ptr p q := by rw [← hWa]; exact (HB.out.other (p := ⟨b, 3, none⟩) (fun e => D1.out e) _).set2 _
  have hW : Wrote (fun x => x = b ∨ x = rb) w Wa := by rw [← hWa]; exact ((Wrote.refl (fun x => x = b ∨ x = rb) w).setCell (p := ⟨b, 3, none⟩) (.inl (.inl rfl)) _).setCell (p := ⟨rb, 2, none⟩) (.inl (.inr rfl)) _
  have hk : ∀ t : Tr Int Int, (b ∉ t.blocks) → rb ∉ t.blocks → Held ek ev w t → Held ek ev Wa t := fun t t1 t2 ht => ht.wrote hW (fun x hx e => e.elim (fun e => t1 (e ▸ hx)) (fun e => t2 (e ▸ hx)))
  have l1 := hk l D.out.1.1 D.out.2.1 HR.out
  have m1 := hk rl D.out.1.2.1 D.out.2.2.1 HL.out
  have r1 := hk rr D.out.1.2.2 D.out.2.2.2 HM.out
  clear hk hWa
  have hms := measure_any Wa b (ek k) (ev v) l rl x y n1 l1 m1 D.out.1.1 D.out.1.2.1 (by omega)
  refine hms.mono ?_
  rintro e W2 ⟨⟨u, rfl⟩, g1, g2⟩
  have hB : Held ek ev W2 (.node b l k v rl) := ⟨g1, l1.wrote g2 (fun x hx e => D.out.1.1 (e ▸ hx)), m1.wrote g2 (fun x hx e => D.out.1.2.1 (e ▸ hx))⟩
  have n3 := n2.wrote g2 (fun e => D1.out e.symm)
  have r2 := r1.wrote g2 (fun x hx e => D.out.1.2.2 (e ▸ hx))
  have HB2 := hid hB
  have N3 := hid n3
  have R2 := hid r2
  have HW := hid (hW.step g2 (fun x hx => .inl (.inl hx)))
  clear hms n1 m1 r1 g1 g2 hB n3 n2 l1 r2 hW c2 c3 f2 f3
  go_wp2_with fail
  have hms := measure_any W2 rb (ek rk) (ev rv) (.node b l k v rl) rr p q N3.out HB2.out R2.out (by
    simp only [Tr.blocks, List.mem_cons, List.mem_append, not_or]
    exact ⟨fun e => D1.out e.symm, D.out.2.1, D.out.2.2.1⟩) D.out.2.2.2 (by simp only [Tr.many]; omega)
  refine hms.mono ?_
  rintro e W3 ⟨⟨u, rfl⟩, g1, g2⟩
  have hF : Held ek ev W3 (.node rb (.node b l k v rl) rk rv rr) := ⟨g1, HB2.out.wrote g2 (fun x hx e => by
    rw [e] at hx
    simp only [Tr.blocks, List.mem_cons, List.mem_append] at hx
    rcases hx with hx | hx | hx
    · exact D1.out hx.symm
    · exact D.out.2.1 hx
    · exact D.out.2.2.1 hx), R2.out.wrote g2 (fun x hx e => D.out.2.2.2 (e ▸ hx))⟩
  have HF := hid hF
  have HW3 := hid (HW.out.step g2 (fun x hx => .inl (.inr hx)))
  clear hms g1 g2 hF
  go_wp2_with fail
  refine bodyPost_ret (results_tmp rfl _ _ _) rfl ?_
  exact ⟨rfl, HF.out, HW3.out⟩
end TI
end Go.Proofs.Ytfjeagffdijcoaa
