/- Layer 7: the walk of level: ints. -/
import Derived.Test.YtfjeagffdijcoaaTrA
namespace Go.Proofs.Ytfjeagffdijcoaa
namespace TI
open Go.RowKit

theorem mem_flip {p q : Prop} (h : p ∨ q) : q ∨ p := h.symm

set_option maxRecDepth 100000 in
set_option maxHeartbeats 1000000 in
/-- a left side that is two higher -/
theorem levelA_any (w : World) (b : Nat) (k v : Int) (lb : Nat) (ll : Tr Int Int) (lk lv : Int) (lr r : Tr Int Int) (x y : Int) (hn : NodeAt w b (ek k) (ev v) (.pointer (some ⟨lb, 0, none⟩)) r.ptr x y) (hl : Held ek ev w (.node lb ll lk lv lr)) (hr : Held ek ev w r)
    (hd : (b :: ((Tr.node lb ll lk lv lr).blocks ++ r.blocks)).Nodup) (hg : r.high + 1 < (Tr.node lb ll lk lv lr).high) (hs : (Tr.node lb ll lk lv lr).many + r.many ≤ 281474976710656) :
    Calls Try.prog 127 #[.pointer (some ⟨b, 0, none⟩)] w fun e w' => e = .returned (Tr.level b (.node lb ll lk lv lr) k v r).ptr ∧ Held ek ev w' (Tr.level b (.node lb ll lk lv lr) k v r) ∧ Wrote (fun x => x = b ∨ x ∈ (Tr.node lb ll lk lv lr).blocks ∨ x ∈ r.blocks) w w' := by
  have hh := (Tr.node lb ll lk lv lr).high_many
  have hms := measure_any w b (ek k) (ev v) (.node lb ll lk lv lr) r x y hn hl hr (fun h => (List.nodup_cons.1 hd).1 (List.mem_append_left _ h)) (fun h => (List.nodup_cons.1 hd).1 (List.mem_append_right _ h)) (by omega)
  have HL := hid hl
  have HR := hid hr
  have HD := hid hd
  have hlev : Hid (Tr.level b (.node lb ll lk lv lr) k v r = (Tr.node b (if ll.high < lr.high then (Tr.node lb ll lk lv lr).turnL else .node lb ll lk lv lr) k v r).turnR) := by show _ = _; unfold Tr.level; rw [if_pos hg]; rfl
  have hd1 : (1 : Int) < ((Tr.node lb ll lk lv lr).high : Int) - (r.high : Int) := by omega
  have hwr : IntKind.i64.wrap (((Tr.node lb ll lk lv lr).high : Int) - (r.high : Int)) = ((Tr.node lb ll lk lv lr).high : Int) - (r.high : Int) := wrap_mid _ (by omega) (by omega)
  have HMS := hid hms
  clear hn hl hr hms hd
  go_enter Try.func127, Try.ntmps127
  go_wp2_with fail
  refine HMS.out.mono ?_
  rintro e W1 ⟨⟨u, rfl⟩, g1, g2⟩
  have hL1 : Held ek ev W1 (.node lb ll lk lv lr) := HL.out.wrote g2 (fun x hx e => (List.nodup_cons.1 HD.out).1 (e ▸ List.mem_append_left _ hx))
  have hR1 : Held ek ev W1 r := HR.out.wrote g2 (fun x hx e => (List.nodup_cons.1 HD.out).1 (e ▸ List.mem_append_right _ hx))
  have c2 : W1.cell? ⟨b, 2, none⟩ = some (.pointer (some ⟨lb, 0, none⟩)) := g1.c2
  have c3 := g1.c3
  have d2 := hL1.1.c2
  have d3 := hL1.1.c3
  have HL1 := hid hL1
  have HR1 := hid hR1
  have G1 := hid g1
  have G2 := hid g2
  clear g1 g2 hL1 hR1
  go_wp2_with fail
  refine wp_region_still_lit (by kernel_rfl) (by kernel_rfl) ?_
  repeat still_step
  still_call (height_any W1.drew (.node lb ll lk lv lr) (HL1.out.drewN 1))
  repeat still_step
  still_call (height_any W1.drew r (HR1.out.drewN 1))
  repeat still_step
  refine wpStill_nil ?_
  go_wp2_with fail
  clear c3
  generalize hW2 : World.drew W1 = W2
  have c2' : W2.cell? ⟨b, 2, none⟩ = some (.pointer (some ⟨lb, 0, none⟩)) := by rw [← hW2]; exact c2
  have d2' : W2.cell? ⟨lb, 2, none⟩ = some ll.ptr := by rw [← hW2]; exact d2
  have d3' : W2.cell? ⟨lb, 3, none⟩ = some lr.ptr := by rw [← hW2]; exact d3
  have HL2 : Hid (Held ek ev W2 (.node lb ll lk lv lr)) := by rw [← hW2]; exact HL1.out.drewN 1
  have HR2 : Hid (Held ek ev W2 r) := by rw [← hW2]; exact HR1.out.drewN 1
  have HN2 : Hid (∃ h n, NodeAt W2 b (ek k) (ev v) (.pointer (some ⟨lb, 0, none⟩)) r.ptr h n) := by rw [← hW2]; exact ⟨_, _, G1.out.drewN 1⟩
  have HW2 : Hid (Wrote (fun x => x = b) w W2) := by rw [← hW2]; exact G2.out.drew
  clear hW2 c2 d2 d3 HL1 HR1 G1 G2
  refine wp_region_still_lit (by kernel_rfl) (by kernel_rfl) ?_
  repeat still_step
  still_call (height_any W2.drew ll (HL2.out.2.1.drewN 1))
  repeat still_step
  still_call (height_any W2.drew lr (HL2.out.2.2.drewN 1))
  repeat still_step
  refine wpStill_nil ?_
  change Exit.then _ _ Exit.normal _ (World.drew W2)
  generalize hW3 : World.drew W2 = W3
  have c2 : W3.cell? ⟨b, 2, none⟩ = some (.pointer (some ⟨lb, 0, none⟩)) := by rw [← hW3]; exact c2'
  have HL3 : Hid (Held ek ev W3 (.node lb ll lk lv lr)) := by rw [← hW3]; exact HL2.out.drewN 1
  have HR3 : Hid (Held ek ev W3 r) := by rw [← hW3]; exact HR2.out.drewN 1
  obtain ⟨h3, n3, hN3⟩ : ∃ h n, NodeAt W3 b (ek k) (ev v) (.pointer (some ⟨lb, 0, none⟩)) r.ptr h n := by rw [← hW3]; obtain ⟨h, n, hn⟩ := HN2.out; exact ⟨h, n, hn.drewN 1⟩
  have HN3 := hid hN3
  clear hN3
  have HW3 : Hid (Wrote (fun x => x = b) w W3) := by rw [← hW3]; exact HW2.out.drew
  have f2 : W3.frozen? ⟨b, 2, none⟩ = false := HN3.out.fz 2
  clear hW3 c2' d2' d3' HL2 HR2 HN2 HW2
  by_cases hlt : ll.high < lr.high
  · cases lr with
    | nil => exact absurd hlt (Nat.not_lt_zero _)
    | node qb ql qk qv qr =>
      have hlt' : (ll.high : Int) < ((Tr.node qb ql qk qv qr).high : Int) := by omega
      have HE : Hid (Tr.level b (.node lb ll lk lv (.node qb ql qk qv qr)) k v r = .node qb (.node lb ll lk lv ql) qk qv (.node b qr k v r)) := by show _ = _; rw [hlev.out, if_pos hlt]; rfl
      have hd := HD.out
      simp only [Tr.blocks, List.cons_append, List.append_assoc] at hd
      have m1 : (lb :: qb :: (ll.blocks ++ (ql.blocks ++ qr.blocks))).Nodup := by
        simp only [List.nodup_cons, List.nodup_append, List.mem_cons, List.mem_append] at hd ⊢; grind
      have m2 : (b :: qb :: ((Tr.node lb ll lk lv ql).blocks ++ (qr.blocks ++ r.blocks))).Nodup := by
        simp only [Tr.blocks, List.cons_append, List.nodup_cons, List.nodup_append, List.mem_cons, List.mem_append] at hd ⊢; grind
      have m3 : b ≠ lb ∧ b ≠ qb := by
        simp only [List.nodup_cons, List.nodup_append, List.mem_cons, List.mem_append] at hd; grind
      have m4 : b ∉ (Tr.node qb (Tr.node lb ll lk lv ql) qk qv qr).blocks ∧ (∀ x ∈ r.blocks, x ≠ lb ∧ x ≠ qb) := by
        simp only [Tr.blocks, List.cons_append, List.nodup_cons, List.nodup_append, List.mem_cons, List.mem_append] at hd ⊢; grind
      have M1 := hid m1
      have M2 := hid m2
      have M3 := hid m3
      have M4 := hid m4
      clear hd m1 m2 m3 m4
      have hs2 : ll.many + ql.many + qr.many + r.many ≤ 281474976710656 := by simp only [Tr.many] at hs; omega
      go_wp2_with fail
      refine (turnLeft_any W3 lb lk lv qb ql qk qv qr ll _ _ _ _ HL3.out.1 HL3.out.2.2.1 HL3.out.2.2.2.1 HL3.out.2.2.2.2 HL3.out.2.1 M1.out (by omega)).mono ?_
      rintro e W4 ⟨rfl, g1, g2⟩
      have hN4 := HN3.out.wrote g2 (fun e => e.elim M3.out.1 M3.out.2)
      have hR4 := HR3.out.wrote g2 (fun x hx e => e.elim (M4.out.2 x hx).1 (M4.out.2 x hx).2)
      have c4 := hN4.c2
      have f4 := hN4.fz 2
      have HN4 := hid hN4
      have HR4 := hid hR4
      have G1 := hid g1
      have HW4 := hid (Wrote.step (S := fun x => x = b ∨ x ∈ (Tr.node lb ll lk lv (Tr.node qb ql qk qv qr)).blocks ∨ x ∈ r.blocks) (HW3.out.mono (fun x hx => .inl hx)) g2 (fun x hx => .inl (.inr (.inl (by simp only [Tr.blocks, List.mem_cons, List.mem_append]; grind)))))
      clear hN4 hR4 g1 g2 c2 f2
      go_wp2_with fail
      generalize hW5 : World.setCell W4 _ _ = W5
      have n5 : NodeAt W5 b (ek k) (ev v) (.pointer (some ⟨qb, 0, none⟩)) r.ptr h3 n3 := by rw [← hW5]; exact HN4.out.set2 _
      have l5 : Held ek ev W5 (.node qb (.node lb ll lk lv ql) qk qv qr) := by rw [← hW5]; exact G1.out.setCell M4.out.1 _
      have r5 : Held ek ev W5 r := by rw [← hW5]; exact HR4.out.setCell (fun h => (List.nodup_cons.1 HD.out).1 (List.mem_append_right _ h)) _
      have w5 : Wrote (fun x => x = b ∨ x ∈ (Tr.node lb ll lk lv (Tr.node qb ql qk qv qr)).blocks ∨ x ∈ r.blocks) w W5 := by rw [← hW5]; exact HW4.out.setCell (p := ⟨b, 2, none⟩) (.inl (.inl rfl)) _
      have W5' := hid w5
      clear hW5 w5
      refine (turnRight_any W5 b k v qb (.node lb ll lk lv ql) qk qv qr r _ _ _ _ n5 l5.1 l5.2.1 l5.2.2 r5 M2.out (by simp only [Tr.many]; simp only [Tr.many] at hs; omega)).mono ?_
      rintro e W6 ⟨rfl, g1, g2⟩
      have G1 := hid g1
      have G2 := hid g2
      clear n5 l5 r5 g1 g2
      go_wp2_with fail
      refine bodyPost_ret (results_tmp rfl _ _ _) rfl ?_
      rw [HE.out]
      exact ⟨rfl, G1.out, W5'.out.step G2.out (fun x hx => .inl (hx.elim .inl (fun e => .inr (.inl (by rw [e]; simp only [Tr.blocks, List.mem_cons, List.mem_append]; grind)))))⟩
  · have hlt' : ¬ (ll.high : Int) < (lr.high : Int) := by omega
    have HE : Hid (Tr.level b (.node lb ll lk lv lr) k v r = .node lb ll lk lv (.node b lr k v r)) := by show _ = _; rw [hlev.out, if_neg hlt]; rfl
    clear hlt
    have hs2 : ll.many + lr.many + r.many ≤ 281474976710656 := by simp only [Tr.many] at hs; omega
    go_wp2_with fail
    refine (turnRight_any W3 b k v lb ll lk lv lr r _ _ _ _ HN3.out HL3.out.1 HL3.out.2.1 HL3.out.2.2 HR3.out (by have := HD.out; simpa only [Tr.blocks, List.cons_append, List.append_assoc] using this) (by omega)).mono ?_
    rintro e W6 ⟨rfl, g1, g2⟩
    have G1 := hid g1
    have G2 := hid g2
    clear g1 g2
    go_wp2_with fail
    refine bodyPost_ret (results_tmp rfl _ _ _) rfl ?_
    rw [HE.out]
    exact ⟨rfl, G1.out, Wrote.step (HW3.out.mono (fun x hx => .inl hx)) G2.out (fun x hx => .inl (hx.elim .inl (fun e => .inr (.inl (by rw [e]; simp only [Tr.blocks, List.mem_cons, true_or])))))⟩

set_option maxRecDepth 100000 in
set_option maxHeartbeats 1000000 in
/-- a right side that is two higher -/
theorem levelB_any (w : World) (b : Nat) (k v : Int) (rb : Nat) (rl : Tr Int Int) (rk rv : Int) (rr l : Tr Int Int) (x y : Int) (hn : NodeAt w b (ek k) (ev v) l.ptr (.pointer (some ⟨rb, 0, none⟩)) x y) (hl : Held ek ev w l) (hr : Held ek ev w (.node rb rl rk rv rr))
    (hd : (b :: (l.blocks ++ (Tr.node rb rl rk rv rr).blocks)).Nodup) (hg : l.high + 1 < (Tr.node rb rl rk rv rr).high) (hs : l.many + (Tr.node rb rl rk rv rr).many ≤ 281474976710656) :
    Calls Try.prog 127 #[.pointer (some ⟨b, 0, none⟩)] w fun e w' => e = .returned (Tr.level b l k v (.node rb rl rk rv rr)).ptr ∧ Held ek ev w' (Tr.level b l k v (.node rb rl rk rv rr)) ∧ Wrote (fun x => x = b ∨ x ∈ l.blocks ∨ x ∈ (Tr.node rb rl rk rv rr).blocks) w w' := by
  have hh := (Tr.node rb rl rk rv rr).high_many
  have hms := measure_any w b (ek k) (ev v) l (.node rb rl rk rv rr) x y hn hl hr (fun h => (List.nodup_cons.1 hd).1 (List.mem_append_left _ h)) (fun h => (List.nodup_cons.1 hd).1 (List.mem_append_right _ h)) (by omega)
  have HL := hid hl
  have HR := hid hr
  have HD := hid hd
  have hlev : Hid (Tr.level b l k v (.node rb rl rk rv rr) = (Tr.node b l k v (if rr.high < rl.high then (Tr.node rb rl rk rv rr).turnR else .node rb rl rk rv rr)).turnL) := by show _ = _; unfold Tr.level; rw [if_neg (show ¬ (Tr.node rb rl rk rv rr).high + 1 < l.high by omega), if_pos hg]; rfl
  have hd0 : ¬ (1 : Int) < (l.high : Int) - ((Tr.node rb rl rk rv rr).high : Int) := by omega
  have hd1 : (l.high : Int) - ((Tr.node rb rl rk rv rr).high : Int) < -1 := by omega
  have hwr : IntKind.i64.wrap ((l.high : Int) - ((Tr.node rb rl rk rv rr).high : Int)) = (l.high : Int) - ((Tr.node rb rl rk rv rr).high : Int) := wrap_mid _ (by omega) (by omega)
  have HMS := hid hms
  clear hn hl hr hms hd
  go_enter Try.func127, Try.ntmps127
  go_wp2_with fail
  refine HMS.out.mono ?_
  rintro e W1 ⟨⟨u, rfl⟩, g1, g2⟩
  have hL1 : Held ek ev W1 l := HL.out.wrote g2 (fun x hx e => (List.nodup_cons.1 HD.out).1 (e ▸ List.mem_append_left _ hx))
  have hR1 : Held ek ev W1 (.node rb rl rk rv rr) := HR.out.wrote g2 (fun x hx e => (List.nodup_cons.1 HD.out).1 (e ▸ List.mem_append_right _ hx))
  have c3 : W1.cell? ⟨b, 3, none⟩ = some (.pointer (some ⟨rb, 0, none⟩)) := g1.c3
  have c2 := g1.c2
  have d2 := hR1.1.c2
  have d3 := hR1.1.c3
  have HL1 := hid hL1
  have HR1 := hid hR1
  have G1 := hid g1
  have G2 := hid g2
  clear g1 g2 hL1 hR1
  go_wp2_with fail
  refine wp_region_still_lit (by kernel_rfl) (by kernel_rfl) ?_
  repeat still_step
  still_call (height_any W1.drew l (HL1.out.drewN 1))
  repeat still_step
  still_call (height_any W1.drew (.node rb rl rk rv rr) (HR1.out.drewN 1))
  repeat still_step
  refine wpStill_nil ?_
  go_wp2_with fail
  clear c2
  generalize hW2 : World.drew W1 = W2
  have c3' : W2.cell? ⟨b, 3, none⟩ = some (.pointer (some ⟨rb, 0, none⟩)) := by rw [← hW2]; exact c3
  have d2' : W2.cell? ⟨rb, 2, none⟩ = some rl.ptr := by rw [← hW2]; exact d2
  have d3' : W2.cell? ⟨rb, 3, none⟩ = some rr.ptr := by rw [← hW2]; exact d3
  have HL2 : Hid (Held ek ev W2 l) := by rw [← hW2]; exact HL1.out.drewN 1
  have HR2 : Hid (Held ek ev W2 (.node rb rl rk rv rr)) := by rw [← hW2]; exact HR1.out.drewN 1
  have HN2 : Hid (∃ h n, NodeAt W2 b (ek k) (ev v) l.ptr (.pointer (some ⟨rb, 0, none⟩)) h n) := by rw [← hW2]; exact ⟨_, _, G1.out.drewN 1⟩
  have HW2 : Hid (Wrote (fun x => x = b) w W2) := by rw [← hW2]; exact G2.out.drew
  clear hW2 c3 d2 d3 HL1 HR1 G1 G2
  refine wp_region_still_lit (by kernel_rfl) (by kernel_rfl) ?_
  repeat still_step
  still_call (height_any W2.drew rr (HR2.out.2.2.drewN 1))
  repeat still_step
  still_call (height_any W2.drew rl (HR2.out.2.1.drewN 1))
  repeat still_step
  refine wpStill_nil ?_
  change Exit.then _ _ Exit.normal _ (World.drew W2)
  generalize hW3 : World.drew W2 = W3
  have c3 : W3.cell? ⟨b, 3, none⟩ = some (.pointer (some ⟨rb, 0, none⟩)) := by rw [← hW3]; exact c3'
  have HL3 : Hid (Held ek ev W3 l) := by rw [← hW3]; exact HL2.out.drewN 1
  have HR3 : Hid (Held ek ev W3 (.node rb rl rk rv rr)) := by rw [← hW3]; exact HR2.out.drewN 1
  obtain ⟨h3, n3, hN3⟩ : ∃ h n, NodeAt W3 b (ek k) (ev v) l.ptr (.pointer (some ⟨rb, 0, none⟩)) h n := by rw [← hW3]; obtain ⟨h, n, hn⟩ := HN2.out; exact ⟨h, n, hn.drewN 1⟩
  have HN3 := hid hN3
  clear hN3
  have HW3 : Hid (Wrote (fun x => x = b) w W3) := by rw [← hW3]; exact HW2.out.drew
  have f3 : W3.frozen? ⟨b, 3, none⟩ = false := HN3.out.fz 3
  clear hW3 c3' d2' d3' HL2 HR2 HN2 HW2
  by_cases hlt : rr.high < rl.high
  · cases rl with
    | nil => exact absurd hlt (Nat.not_lt_zero _)
    | node qb ql qk qv qr =>
      have hlt' : (rr.high : Int) < ((Tr.node qb ql qk qv qr).high : Int) := by omega
      have HE : Hid (Tr.level b l k v (.node rb (.node qb ql qk qv qr) rk rv rr) = .node qb (.node b l k v ql) qk qv (.node rb qr rk rv rr)) := by show _ = _; rw [hlev.out, if_pos hlt]; rfl
      have hd := HD.out
      simp only [Tr.blocks, List.cons_append, List.append_assoc] at hd
      have m1 : (rb :: qb :: (ql.blocks ++ (qr.blocks ++ rr.blocks))).Nodup := by
        simp only [List.nodup_cons, List.nodup_append, List.mem_cons, List.mem_append] at hd ⊢; grind
      have m2 : (b :: qb :: (l.blocks ++ (ql.blocks ++ (Tr.node rb qr rk rv rr).blocks))).Nodup := by
        simp only [Tr.blocks, List.nodup_cons, List.nodup_append, List.mem_cons, List.mem_append] at hd ⊢; grind
      have m3 : b ≠ rb ∧ b ≠ qb := by
        simp only [List.nodup_cons, List.nodup_append, List.mem_cons, List.mem_append] at hd; grind
      have m4 : b ∉ (Tr.node qb ql qk qv (Tr.node rb qr rk rv rr)).blocks ∧ (∀ x ∈ l.blocks, x ≠ rb ∧ x ≠ qb) := by
        simp only [Tr.blocks, List.nodup_cons, List.nodup_append, List.mem_cons, List.mem_append] at hd ⊢; grind
      have M1 := hid m1
      have M2 := hid m2
      have M3 := hid m3
      have M4 := hid m4
      clear hd m1 m2 m3 m4
      have hs2 : rr.many + ql.many + qr.many + l.many ≤ 281474976710656 := by simp only [Tr.many] at hs; omega
      go_wp2_with fail
      refine (turnRight_any W3 rb rk rv qb ql qk qv qr rr _ _ _ _ HR3.out.1 HR3.out.2.1.1 HR3.out.2.1.2.1 HR3.out.2.1.2.2 HR3.out.2.2 M1.out (by omega)).mono ?_
      rintro e W4 ⟨rfl, g1, g2⟩
      have hN4 := HN3.out.wrote g2 (fun e => e.elim M3.out.1 M3.out.2)
      have hL4 := HL3.out.wrote g2 (fun x hx e => e.elim (M4.out.2 x hx).1 (M4.out.2 x hx).2)
      have c4 := hN4.c3
      have f4 := hN4.fz 3
      have HN4 := hid hN4
      have HL4 := hid hL4
      have G1 := hid g1
      have HW4 := hid (Wrote.step (S := fun x => x = b ∨ x ∈ l.blocks ∨ x ∈ (Tr.node rb (Tr.node qb ql qk qv qr) rk rv rr).blocks) (HW3.out.mono (fun x hx => .inl hx)) g2 (fun x hx => .inl (.inr (.inr (by simp only [Tr.blocks, List.mem_cons, List.mem_append]; grind)))))
      clear hN4 hL4 g1 g2 c3 f3
      go_wp2_with fail
      generalize hW5 : World.setCell W4 _ _ = W5
      have n5 : NodeAt W5 b (ek k) (ev v) l.ptr (.pointer (some ⟨qb, 0, none⟩)) h3 n3 := by rw [← hW5]; exact HN4.out.set3 _
      have r5 : Held ek ev W5 (.node qb ql qk qv (.node rb qr rk rv rr)) := by rw [← hW5]; exact G1.out.setCell M4.out.1 _
      have l5 : Held ek ev W5 l := by rw [← hW5]; exact HL4.out.setCell (fun h => (List.nodup_cons.1 HD.out).1 (List.mem_append_left _ h)) _
      have w5 : Wrote (fun x => x = b ∨ x ∈ l.blocks ∨ x ∈ (Tr.node rb (Tr.node qb ql qk qv qr) rk rv rr).blocks) w W5 := by rw [← hW5]; exact HW4.out.setCell (p := ⟨b, 3, none⟩) (.inl (.inl rfl)) _
      have W5' := hid w5
      clear hW5 w5
      refine (turnLeft_any W5 b k v qb ql qk qv (.node rb qr rk rv rr) l _ _ _ _ n5 r5.1 r5.2.1 r5.2.2 l5 M2.out (by simp only [Tr.many]; simp only [Tr.many] at hs; omega)).mono ?_
      rintro e W6 ⟨rfl, g1, g2⟩
      have G1 := hid g1
      have G2 := hid g2
      clear n5 l5 r5 g1 g2
      go_wp2_with fail
      refine bodyPost_ret (results_tmp rfl _ _ _) rfl ?_
      rw [HE.out]
      exact ⟨rfl, G1.out, W5'.out.step G2.out (fun x hx => .inl (hx.elim .inl (fun e => .inr (.inr (by rw [e]; simp only [Tr.blocks, List.mem_cons, List.mem_append]; grind)))))⟩
  · have hlt' : ¬ (rr.high : Int) < (rl.high : Int) := by omega
    have HE : Hid (Tr.level b l k v (.node rb rl rk rv rr) = .node rb (.node b l k v rl) rk rv rr) := by show _ = _; rw [hlev.out, if_neg hlt]; rfl
    clear hlt
    have hs2 : rr.many + rl.many + l.many ≤ 281474976710656 := by simp only [Tr.many] at hs; omega
    have m2 : (b :: rb :: (l.blocks ++ (rl.blocks ++ rr.blocks))).Nodup := by
      have hd := HD.out
      simp only [Tr.blocks, List.nodup_cons, List.nodup_append, List.mem_cons, List.mem_append] at hd ⊢; grind
    have M2 := hid m2
    clear m2
    go_wp2_with fail
    refine (turnLeft_any W3 b k v rb rl rk rv rr l _ _ _ _ HN3.out HR3.out.1 HR3.out.2.1 HR3.out.2.2 HL3.out M2.out (by omega)).mono ?_
    rintro e W6 ⟨rfl, g1, g2⟩
    have G1 := hid g1
    have G2 := hid g2
    clear g1 g2
    go_wp2_with fail
    refine bodyPost_ret (results_tmp rfl _ _ _) rfl ?_
    rw [HE.out]
    exact ⟨rfl, G1.out, Wrote.step (HW3.out.mono (fun x hx => .inl hx)) G2.out (fun x hx => .inl (hx.elim .inl (fun e => .inr (.inr (by rw [e]; simp only [Tr.blocks, List.mem_cons, true_or])))))⟩

set_option maxRecDepth 100000 in
/-- sides that are level -/
theorem levelC_any (w : World) (b : Nat) (k v : Int) (l r : Tr Int Int) (x y : Int) (hn : NodeAt w b (ek k) (ev v) l.ptr r.ptr x y) (hl : Held ek ev w l) (hr : Held ek ev w r)
    (hd : (b :: (l.blocks ++ r.blocks)).Nodup) (hg1 : l.high ≤ r.high + 1) (hg2 : r.high ≤ l.high + 1) (hs : l.many + r.many ≤ 281474976710656) :
    Calls Try.prog 127 #[.pointer (some ⟨b, 0, none⟩)] w fun e w' => e = .returned (Tr.level b l k v r).ptr ∧ Held ek ev w' (Tr.level b l k v r) ∧ Wrote (fun x => x = b ∨ x ∈ l.blocks ∨ x ∈ r.blocks) w w' := by
  have hh := l.high_many
  have hh2 := r.high_many
  have hms := measure_any w b (ek k) (ev v) l r x y hn hl hr (fun h => (List.nodup_cons.1 hd).1 (List.mem_append_left _ h)) (fun h => (List.nodup_cons.1 hd).1 (List.mem_append_right _ h)) (by omega)
  have HL := hid hl
  have HR := hid hr
  have HD := hid hd
  have hlev : Hid (Tr.level b l k v r = .node b l k v r) := by show _ = _; unfold Tr.level; rw [if_neg (show ¬ r.high + 1 < l.high by omega), if_neg (show ¬ l.high + 1 < r.high by omega)]
  have hd0 : ¬ (1 : Int) < (l.high : Int) - (r.high : Int) := by omega
  have hd1 : ¬ (l.high : Int) - (r.high : Int) < -1 := by omega
  have hwr : IntKind.i64.wrap ((l.high : Int) - (r.high : Int)) = (l.high : Int) - (r.high : Int) := wrap_mid _ (by omega) (by omega)
  have HMS := hid hms
  clear hn hl hr hms hd
  go_enter Try.func127, Try.ntmps127
  go_wp2_with fail
  refine HMS.out.mono ?_
  rintro e W1 ⟨⟨u, rfl⟩, g1, g2⟩
  have hL1 : Held ek ev W1 l := HL.out.wrote g2 (fun x hx e => (List.nodup_cons.1 HD.out).1 (e ▸ List.mem_append_left _ hx))
  have hR1 : Held ek ev W1 r := HR.out.wrote g2 (fun x hx e => (List.nodup_cons.1 HD.out).1 (e ▸ List.mem_append_right _ hx))
  have c2 := g1.c2
  have c3 := g1.c3
  have HL1 := hid hL1
  have HR1 := hid hR1
  have G1 := hid g1
  have G2 := hid g2
  clear g1 g2 hL1 hR1
  go_wp2_with fail
  refine wp_region_still_lit (by kernel_rfl) (by kernel_rfl) ?_
  repeat still_step
  still_call (height_any W1.drew l (HL1.out.drewN 1))
  repeat still_step
  still_call (height_any W1.drew r (HR1.out.drewN 1))
  repeat still_step
  refine wpStill_nil ?_
  go_wp2_with fail
  refine bodyPost_ret (results_tmp rfl _ _ _) rfl ?_
  rw [hlev.out]
  exact ⟨rfl, ⟨G1.out.drewN 1, HL1.out.drewN 1, HR1.out.drewN 1⟩, (G2.out.mono (fun x hx => .inl hx)).drew⟩

theorem level_any (w : World) (b : Nat) (k v : Int) (l r : Tr Int Int) (x y : Int) (hn : NodeAt w b (ek k) (ev v) l.ptr r.ptr x y) (hl : Held ek ev w l) (hr : Held ek ev w r)
    (hd : (b :: (l.blocks ++ r.blocks)).Nodup) (hs : l.many + r.many ≤ 281474976710656) :
    Calls Try.prog 127 #[.pointer (some ⟨b, 0, none⟩)] w fun e w' => e = .returned (Tr.level b l k v r).ptr ∧ Held ek ev w' (Tr.level b l k v r) ∧ Wrote (fun x => x = b ∨ x ∈ l.blocks ∨ x ∈ r.blocks) w w' := by
  by_cases h1 : r.high + 1 < l.high
  · cases l with
    | nil => exact absurd h1 (Nat.not_lt_zero _)
    | node lb ll lk lv lr => exact levelA_any w b k v lb ll lk lv lr r x y hn hl hr hd h1 hs
  · by_cases h2 : l.high + 1 < r.high
    · cases r with
      | nil => exact absurd h2 (Nat.not_lt_zero _)
      | node rb rl rk rv rr => exact levelB_any w b k v rb rl rk rv rr l x y hn hl hr hd h2 hs
    · exact levelC_any w b k v l r x y hn hl hr hd (by omega) (by omega) hs
end TI
end Go.Proofs.Ytfjeagffdijcoaa
