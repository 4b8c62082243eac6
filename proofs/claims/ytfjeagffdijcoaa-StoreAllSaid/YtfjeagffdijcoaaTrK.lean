/- Layer 7: Get of a map of ints. -/
import Derived.Test.YtfjeagffdijcoaaTrJ
import Derived.StillTailTactics
namespace Go.Proofs.Ytfjeagffdijcoaa
namespace TI
open Go.RowKit Go.Shelf

set_option maxRecDepth 100000 in
set_option maxHeartbeats 1000000 in
theorem mapGet_any (g : Nat) (cb : Array Value) (c : Int → Int → Int) (I : World → Prop) (K : Nat → Prop) (ho : OrdFn g cb c I K) (w : World) (M : Nat) (t : Tr Int Int) (key : Int) (h : IsMap w M g cb t) (hi : I w) :
    Calls Try.prog 63 #[.pointer (some ⟨M, 0, none⟩), .int .i64 key] w fun e w' =>
      e = .returned (.tuple #[.int .i64 ((Tr.get c key t).getD 0), .bool (Tr.get c key t).isSome]) ∧ ∃ q, w' = w.drewN q := by
  have eg := ho.eg
  have c1 := h.root
  have H := hid h
  have HI := hid hi
  have HG : Hid (Tr.get c key t = Tr.get c key t) := hid rfl
  clear h hi
  go_enter Try.func63, Try.ntmps63
  go_wp2_with fail
  go_loopg [6] t.high (fun gx sn wr => ∃ (sub : Tr Int Int) (q : Nat), sn = .pointer sub.addr ∧ Hid (Held ek ev wr sub) ∧ Hid (Tr.get c key sub = Tr.get c key t) ∧ sub.high ≤ gx ∧ wr = w.drewN q)
  case atStart => exact ⟨t, 0, rfl, hid H.out.held, hid rfl, Nat.le_refl _, rfl⟩
  case round =>
    obtain ⟨sub, q, rfl, HH, HJ, hh, rfl⟩ := hrel
    cases sub with
    | nil =>
      have hadr : (Tr.nil : Tr Int Int).addr = none := rfl
      have hn : Hid (Tr.get c key t = none) := by show _ = _; rw [← HJ.out]; rfl
      go_wp2_with fail
      go_ret2
      exact ⟨by rw [hn.out]; rfl, q, rfl⟩
    | node b l k v r =>
      have hadr : (Tr.node b l k v r).addr = some ⟨b, 0, none⟩ := rfl
      have hhl : l.high + 1 ≤ (Tr.node b l k v r).high ∧ r.high + 1 ≤ (Tr.node b l k v r).high := by simp only [Tr.high]; omega
      generalize hWq : w.drewN q = Wq at *
      have hWI : I Wq := ho.keep (fun _ => False) _ _ (show Wrote (fun _ => False) w Wq by rw [← hWq]; exact (Wrote.refl _ w).drewN _) (fun _ h => h.elim) HI.out
      have i2 : I Wq.drew := ho.keep (fun _ => False) _ _ ((Wrote.refl _ Wq).drew) (fun _ h => h.elim) hWI
      obtain ⟨cv, hcv⟩ : ∃ cv, c key k = cv := ⟨_, rfl⟩
      have hcl := ho.call Wq.drew key k i2
      rw [hcv] at hcl
      have HCL := hid hcl
      have HCV := hid hcv
      have c0M : Wq.cell? ⟨M, 0, none⟩ = some (.func (.func g) #[] cb) := by rw [← hWq]; exact H.out.ord
      have n0 := HH.out.1.c0
      have HWQ := hid hWq
      clear i2 hcl hcv hWI hWq
      go_wp2_with fail
      go_still_tail 9, (by kernel_rfl)
      change wpList _ _ _ _ _ (World.drew Wq)
      go_wp2_with fail
      refine HCL.out.mono ?_
      rintro e w1 ⟨rfl, q2, rfl⟩
      have HH2 : Hid (Held ek ev (Wq.drew.drewN q2) (.node b l k v r)) := (HH.out.drewN 1).drewN q2
      have HW2 : Hid (∃ q', Wq.drew.drewN q2 = w.drewN q') := ⟨q + 1 + q2, by rw [← HWQ.out, ← World.drewN_drewN, ← World.drewN_drewN]; rfl⟩
      clear HH
      have d1 := HH2.out.1.c1
      have d2 := HH2.out.1.c2
      have d3 := HH2.out.1.c3
      generalize Wq.drew.drewN q2 = Wz at *
      obtain ⟨qz, hqz⟩ := HW2.out
      have HQZ := hid hqz
      clear hqz
      rcases Int.lt_trichotomy cv 0 with g1 | g1 | g1
      · have HG2 : Hid (Tr.get c key l = Tr.get c key t) := by show _ = _; rw [← HJ.out]; show _ = (if c key k < 0 then _ else _); rw [if_pos (by rw [HCV.out]; exact g1)]
        go_wp2_with fail
        go_roundg l.high
        case measure => omega
        case rel => exact ⟨l, qz, rfl, hid HH2.out.2.1, HG2, Nat.le_refl _, HQZ.out⟩
      · have HG2 : Hid (Tr.get c key t = some v) := by show _ = _; rw [← HJ.out]; show (if c key k < 0 then _ else if 0 < c key k then _ else _) = _; rw [if_neg (by rw [HCV.out]; omega), if_neg (by rw [HCV.out]; omega)]
        go_wp2_with fail
        go_ret2
        exact ⟨by rw [HG2.out]; rfl, qz, HQZ.out⟩
      · have HG2 : Hid (Tr.get c key r = Tr.get c key t) := by show _ = _; rw [← HJ.out]; show _ = (if c key k < 0 then _ else if 0 < c key k then _ else _); rw [if_neg (by rw [HCV.out]; omega), if_pos (by rw [HCV.out]; exact g1)]
        go_wp2_with fail
        go_roundg r.high
        case measure => omega
        case rel => exact ⟨r, qz, rfl, hid HH2.out.2.2, HG2, Nat.le_refl _, HQZ.out⟩
end TI
end Go.Proofs.Ytfjeagffdijcoaa
