/- Layer 7: Rank, Floor and Ceil of a map of ints. Layer 7: a map, another instance (uint64 keys, bytes): printed from the texts for ints. -/
import Derived.Test.YtfjeagffdijcoaaTrP
import Derived.Test.YtfjeagffdijcoaaTb
import Derived.StillTailTactics
import Derived.Test.YtfjeagffdijcoaaUb
namespace Go.Proofs.Ytfjeagffdijcoaa
namespace TI
open Go.RowKit Go.Shelf

set_option maxRecDepth 100000 in
set_option maxHeartbeats 1000000 in
theorem mapRank_any (g : Nat) (cb : Array Value) (c : Int → Int → Int) (I : World → Prop) (K : Nat → Prop) (ho : OrdFn g cb c I K) (w : World) (M : Nat) (t : Tr Int Int) (key : Int) (h : IsMap w M g cb t) (hm : t.many ≤ 70368744177664) (hi : I w) :
    Calls Try.prog 66 #[.pointer (some ⟨M, 0, none⟩), .int .i64 key] w fun e w' =>
      e = .returned (.int .i64 (Tr.rank c key t : Nat)) ∧ ∃ q, w' = w.drewN q := by
  have eg := ho.eg
  have c1 := h.root
  have H := hid h
  have HI := hid hi
  clear h hi
  go_enter Try.func66, Try.ntmps66
  go_wp2_with fail
  go_loopg [5, 6] t.high (fun gx sr sn wr => ∃ (sub : Tr Int Int) (q : Nat) (r0 : Nat), sn = .pointer sub.addr ∧ sr = .int .i64 r0 ∧ Hid (Held ek ev wr sub) ∧ Hid (r0 + Tr.rank c key sub = Tr.rank c key t) ∧ r0 + sub.many ≤ 70368744177664 ∧ sub.high ≤ gx ∧ Hid (wr = w.drewN q))
  case atStart => exact ⟨t, 0, 0, rfl, rfl, hid H.out.held, hid (by show _ = _; omega), by omega, Nat.le_refl _, hid rfl⟩
  case round =>
    obtain ⟨sub, q, r0, rfl, rfl, HH, HJ, hmm, hh, HWR⟩ := hrel
    cases sub with
    | nil =>
      have hadr : (Tr.nil : Tr Int Int).addr = none := rfl
      have hn : Hid (r0 = Tr.rank c key t) := by show _ = _; rw [← HJ.out]; rfl
      go_wp2_with fail
      refine bodyPost_ret (results_tmp rfl _ _ _) rfl ?_
      exact ⟨by rw [← hn.out]; rfl, q, HWR.out⟩
    | node b l k v r =>
      have hadr : (Tr.node b l k v r).addr = some ⟨b, 0, none⟩ := rfl
      have hhl : l.high + 1 ≤ (Tr.node b l k v r).high ∧ r.high + 1 ≤ (Tr.node b l k v r).high := by simp only [Tr.high]; omega
      have HWI : Hid (∀ n, I (wr.drewN n)) := fun n => ho.keep (fun _ => False) _ _ (show Wrote (fun _ => False) w (wr.drewN n) by rw [HWR.out]; exact ((Wrote.refl _ w).drewN _).drewN _) (fun _ h => h.elim) HI.out
      obtain ⟨cv, hcv⟩ : ∃ cv, c k key = cv := ⟨_, rfl⟩
      have HCL : Hid (∀ n, Calls Try.prog g (#[.int .i64 k, .int .i64 key] ++ cb) (wr.drewN n) fun e w' => e = .returned (.int .i64 cv) ∧ ∃ q, w' = (wr.drewN n).drewN q) := fun n => by
        rw [← hcv]
        exact ho.call (wr.drewN n) k key (HWI.out n)
      have HCV := hid hcv
      have c0M : wr.cell? ⟨M, 0, none⟩ = some (.func (.func g) #[] cb) := by rw [HWR.out]; exact H.out.ord
      have n0 := HH.out.1.c0
      have HHq : Hid (∀ n, Held ek ev (wr.drewN n) (.node b l k v r)) := fun n => HH.out.drewN n
      have HQQ : Hid (∀ n, wr.drewN n = w.drewN (q + n)) := fun n => by rw [HWR.out, World.drewN_drewN]
      clear hcv HWI
      go_wp2_with fail
      go_quiet (refine Calls.quiet_of (HCL.out _))
      have HZ := hid (HHq.out nq)
      have hwz0 := HQQ.out nq
      clear HCL HHq HQQ n0 c0M HH HWR
      generalize hz : wr.drewN nq = wz at *
      have HWZ := hid hwz0
      generalize q + nq = qz at *
      clear hz hwz0
      have n2 : wz.cell? ⟨b, 2, none⟩ = some l.ptr := HZ.out.1.c2
      have n3 : wz.cell? ⟨b, 3, none⟩ = some r.ptr := HZ.out.1.c3
      have hml : r0 + (1 + l.many + r.many) ≤ 70368744177664 := hmm
      clear hmm
      by_cases g1 : cv < 0
      · have HR : Hid (r0 + (1 + l.many) + Tr.rank c key r = Tr.rank c key t) := by
          show _ = _
          rw [← HJ.out]
          show _ = r0 + (if c k key < 0 then 1 + l.many + Tr.rank c key r else Tr.rank c key l)
          rw [if_pos (by rw [HCV.out]; exact g1)]
          omega
        have hw1 : IntKind.i64.wrap (1 + (l.many : Int)) = 1 + (l.many : Int) := wrap_mid _ (by omega) (by omega)
        have hw2 : IntKind.i64.wrap ((r0 : Int) + (1 + (l.many : Int))) = (r0 : Int) + (1 + (l.many : Int)) := wrap_mid _ (by omega) (by omega)
        go_wp2_with (go_at_call 84; refine (count_any _ l HZ.out.2.1).mono ?_; rintro e w1 ⟨rfl, hw1⟩; obtain rfl : wz = w1 := hw1.symm)
        go_roundg r.high
        case measure => omega
        case rel => exact ⟨r, qz, r0 + (1 + l.many), rfl, by congr 1, hid HZ.out.2.2, HR, by omega, Nat.le_refl _, HWZ⟩
      · have HR : Hid (r0 + Tr.rank c key l = Tr.rank c key t) := by
          show _ = _
          rw [← HJ.out]
          show _ = r0 + (if c k key < 0 then 1 + l.many + Tr.rank c key r else Tr.rank c key l)
          rw [if_neg (by rw [HCV.out]; exact g1)]
        go_wp2_with fail
        go_roundg l.high
        case measure => omega
        case rel => exact ⟨l, qz, r0, rfl, rfl, hid HZ.out.2.1, HR, by omega, Nat.le_refl _, HWZ⟩

/-- what told tells -/
def tup3 : Option (Int × Int) → Value
  | some x => .tuple #[ek x.1, ev x.2, .bool true]
  | none => .tuple #[.int .i64 0, .int .i64 0, .bool false]

set_option maxRecDepth 100000 in
set_option maxHeartbeats 1000000 in
theorem mapFloor_any (g : Nat) (cb : Array Value) (c : Int → Int → Int) (I : World → Prop) (K : Nat → Prop) (ho : OrdFn g cb c I K) (w : World) (M : Nat) (t : Tr Int Int) (key : Int) (h : IsMap w M g cb t) (hi : I w) :
    Calls Try.prog 64 #[.pointer (some ⟨M, 0, none⟩), .int .i64 key] w fun e w' =>
      e = .returned (tup3 (Tr.floor c key t)) ∧ ∃ q, w' = w.drewN q := by
  have eg := ho.eg
  have c1 := h.root
  have H := hid h
  have HI := hid hi
  clear h hi
  go_enter Try.func64, Try.ntmps64
  go_wp2_with fail
  go_loopg [7, 8] t.high (fun gx sb sn wr => ∃ (sub : Tr Int Int) (q : Nat) (best : Option (Nat × Int × Int)), sn = .pointer sub.addr ∧ sb = .pointer (best.map fun b => ⟨b.1, 0, none⟩) ∧ Hid (Held ek ev wr sub) ∧ Hid ((Tr.floor c key sub).or (best.map fun b => b.2) = Tr.floor c key t) ∧ Hid (∀ b, best = some b → ∃ l r h n, NodeAt w b.1 (ek b.2.1) (ev b.2.2) l r h n) ∧ sub.high ≤ gx ∧ Hid (wr = w.drewN q))
  case atStart => exact ⟨t, 0, none, rfl, rfl, hid H.out.held, hid (by show _ = _; simp), fun _ h => (by cases h), Nat.le_refl _, hid rfl⟩
  case round =>
    obtain ⟨sub, q, best, rfl, rfl, HH, HJ, HBE, hh, HWR⟩ := hrel
    cases sub with
    | nil =>
      have hadr : (Tr.nil : Tr Int Int).addr = none := rfl
      have hn : Hid (best.map (fun b => b.2) = Tr.floor c key t) := by show _ = _; rw [← HJ.out]; rfl
      cases best with
      | none =>
        have hbm : (Option.map (fun b : Nat × Int × Int => (⟨b.1, 0, none⟩ : Addr)) none) = none := rfl
        go_wp2_with fail
        refine (told_nil wr).mono ?_
        rintro e w1 ⟨rfl, hw1⟩
        go_wp2_with fail
        refine bodyPost_ret (results_tmp3 rfl _ _ _) rfl ?_
        refine ⟨?_, q, by first | exact HWR.out | rw [hw1, HWR.out]⟩
        rw [← hn.out]
        rfl
      | some bb =>
        obtain ⟨bn, bk, bv⟩ := bb
        have hbm : (Option.map (fun b : Nat × Int × Int => (⟨b.1, 0, none⟩ : Addr)) (some (bn, bk, bv))) = some ⟨bn, 0, none⟩ := rfl
        have HN : Hid (∃ l r h n, NodeAt wr bn (ek bk) (ev bv) l r h n) := by
          obtain ⟨l, r, h, n, hn⟩ := HBE.out _ rfl
          exact ⟨l, r, h, n, by rw [HWR.out]; exact hn.drewN q⟩
        go_wp2_with fail
        obtain ⟨l, r, h, n, hno⟩ := HN.out
        refine (told_any wr bn bk bv l r h n hno).mono ?_
        rintro e w1 ⟨rfl, q2, hw1⟩
        go_wp2_with fail
        refine bodyPost_ret (results_tmp3 rfl _ _ _) rfl ?_
        refine ⟨?_, q + q2, by first | rw [HWR.out, World.drewN_drewN] | rw [hw1, HWR.out, World.drewN_drewN]⟩
        rw [← hn.out]
        rfl
    | node b l k v r =>
      have HNB : Hid (∃ l' r' h n, NodeAt w b (ek k) (ev v) l' r' h n) := by
        have h0 : NodeAt wr b (ek k) (ev v) l.ptr r.ptr (1 + max l.high r.high : Nat) (1 + l.many + r.many : Nat) := HH.out.1
        rw [HWR.out] at h0
        exact ⟨_, _, _, _, ⟨h0.c0, h0.c1, h0.c2, h0.c3, h0.c4, h0.c5, h0.fz⟩⟩
      have hadr : (Tr.node b l k v r).addr = some ⟨b, 0, none⟩ := rfl
      have hhl : l.high + 1 ≤ (Tr.node b l k v r).high ∧ r.high + 1 ≤ (Tr.node b l k v r).high := by simp only [Tr.high]; omega
      have HWI : Hid (∀ n, I (wr.drewN n)) := fun n => ho.keep (fun _ => False) _ _ (show Wrote (fun _ => False) w (wr.drewN n) by rw [HWR.out]; exact ((Wrote.refl _ w).drewN _).drewN _) (fun _ h => h.elim) HI.out
      obtain ⟨cv, hcv⟩ : ∃ cv, c k key = cv := ⟨_, rfl⟩
      have HCL : Hid (∀ n, Calls Try.prog g (#[.int .i64 k, .int .i64 key] ++ cb) (wr.drewN n) fun e w' => e = .returned (.int .i64 cv) ∧ ∃ q, w' = (wr.drewN n).drewN q) := fun n => by
        rw [← hcv]
        exact ho.call (wr.drewN n) k key (HWI.out n)
      have HCV := hid hcv
      have c0M : wr.cell? ⟨M, 0, none⟩ = some (.func (.func g) #[] cb) := by rw [HWR.out]; exact H.out.ord
      have n0 := HH.out.1.c0
      have HHq : Hid (∀ n, Held ek ev (wr.drewN n) (.node b l k v r)) := fun n => HH.out.drewN n
      have HQQ : Hid (∀ n, wr.drewN n = w.drewN (q + n)) := fun n => by rw [HWR.out, World.drewN_drewN]
      clear hcv HWI
      go_wp2_with fail
      go_quiet (refine Calls.quiet_of (HCL.out _))
      have HZ := hid (HHq.out nq)
      have hwz0 := HQQ.out nq
      clear HCL HHq HQQ n0 c0M HH HWR
      generalize hz : wr.drewN nq = wz at *
      have HWZ := hid hwz0
      generalize q + nq = qz at *
      clear hz hwz0
      have n2 : wz.cell? ⟨b, 2, none⟩ = some l.ptr := HZ.out.1.c2
      have n3 : wz.cell? ⟨b, 3, none⟩ = some r.ptr := HZ.out.1.c3
      by_cases g1 : 0 < cv
      · have HR : Hid ((Tr.floor c key l).or (best.map fun b => b.2) = Tr.floor c key t) := by
          show _ = _
          rw [← HJ.out]
          show _ = (if 0 < c k key then Tr.floor c key l else (Tr.floor c key r).or (some (k, v))).or _
          rw [if_pos (by rw [HCV.out]; exact g1)]
        go_wp2_with fail
        go_roundg l.high
        case measure => omega
        case rel => exact ⟨l, qz, best, rfl, rfl, hid HZ.out.2.1, HR, HBE, Nat.le_refl _, HWZ⟩
      · have HR : Hid ((Tr.floor c key r).or ((some (b, k, v)).map fun b => b.2) = Tr.floor c key t) := by
          show _ = _
          rw [← HJ.out]
          show _ = (if 0 < c k key then Tr.floor c key l else (Tr.floor c key r).or (some (k, v))).or _
          rw [if_neg (by rw [HCV.out]; exact g1), Option.or_assoc]
          rfl
        have HBN : Hid (∀ bb, some (b, k, v) = some bb → ∃ l r h n, NodeAt w bb.1 (ek bb.2.1) (ev bb.2.2) l r h n) := fun bb hb => by cases hb; exact HNB.out
        have hsub : (some (b, k, v)).map (fun b => (⟨b.1, 0, none⟩ : Addr)) = some ⟨b, 0, none⟩ := rfl
        have HQ2 : Hid (∀ n, wz.drewN n = w.drewN (qz + n)) := fun n => by rw [HWZ.out, World.drewN_drewN]
        have HS2 : Hid (∀ n, Held ek ev (wz.drewN n) r) := fun n => HZ.out.2.2.drewN n
        go_wp2_with fail
        go_quiet (fail)
        go_wp2_with fail
        go_roundg r.high
        case measure => omega
        case rel => exact ⟨r, _, some (b, k, v), rfl, rfl, hid (HS2.out _), HR, HBN, Nat.le_refl _, hid (HQ2.out _)⟩

set_option maxRecDepth 100000 in
set_option maxHeartbeats 1000000 in
theorem mapCeil_any (g : Nat) (cb : Array Value) (c : Int → Int → Int) (I : World → Prop) (K : Nat → Prop) (ho : OrdFn g cb c I K) (w : World) (M : Nat) (t : Tr Int Int) (key : Int) (h : IsMap w M g cb t) (hi : I w) :
    Calls Try.prog 65 #[.pointer (some ⟨M, 0, none⟩), .int .i64 key] w fun e w' =>
      e = .returned (tup3 (Tr.ceil c key t)) ∧ ∃ q, w' = w.drewN q := by
  have eg := ho.eg
  have c1 := h.root
  have H := hid h
  have HI := hid hi
  clear h hi
  go_enter Try.func65, Try.ntmps65
  go_wp2_with fail
  go_loopg [7, 8] t.high (fun gx sb sn wr => ∃ (sub : Tr Int Int) (q : Nat) (best : Option (Nat × Int × Int)), sn = .pointer sub.addr ∧ sb = .pointer (best.map fun b => ⟨b.1, 0, none⟩) ∧ Hid (Held ek ev wr sub) ∧ Hid ((Tr.ceil c key sub).or (best.map fun b => b.2) = Tr.ceil c key t) ∧ Hid (∀ b, best = some b → ∃ l r h n, NodeAt w b.1 (ek b.2.1) (ev b.2.2) l r h n) ∧ sub.high ≤ gx ∧ Hid (wr = w.drewN q))
  case atStart => exact ⟨t, 0, none, rfl, rfl, hid H.out.held, hid (by show _ = _; simp), fun _ h => (by cases h), Nat.le_refl _, hid rfl⟩
  case round =>
    obtain ⟨sub, q, best, rfl, rfl, HH, HJ, HBE, hh, HWR⟩ := hrel
    cases sub with
    | nil =>
      have hadr : (Tr.nil : Tr Int Int).addr = none := rfl
      have hn : Hid (best.map (fun b => b.2) = Tr.ceil c key t) := by show _ = _; rw [← HJ.out]; rfl
      cases best with
      | none =>
        have hbm : (Option.map (fun b : Nat × Int × Int => (⟨b.1, 0, none⟩ : Addr)) none) = none := rfl
        go_wp2_with fail
        refine (told_nil wr).mono ?_
        rintro e w1 ⟨rfl, hw1⟩
        go_wp2_with fail
        refine bodyPost_ret (results_tmp3 rfl _ _ _) rfl ?_
        refine ⟨?_, q, by first | exact HWR.out | rw [hw1, HWR.out]⟩
        rw [← hn.out]
        rfl
      | some bb =>
        obtain ⟨bn, bk, bv⟩ := bb
        have hbm : (Option.map (fun b : Nat × Int × Int => (⟨b.1, 0, none⟩ : Addr)) (some (bn, bk, bv))) = some ⟨bn, 0, none⟩ := rfl
        have HN : Hid (∃ l r h n, NodeAt wr bn (ek bk) (ev bv) l r h n) := by
          obtain ⟨l, r, h, n, hn⟩ := HBE.out _ rfl
          exact ⟨l, r, h, n, by rw [HWR.out]; exact hn.drewN q⟩
        go_wp2_with fail
        obtain ⟨l, r, h, n, hno⟩ := HN.out
        refine (told_any wr bn bk bv l r h n hno).mono ?_
        rintro e w1 ⟨rfl, q2, hw1⟩
        go_wp2_with fail
        refine bodyPost_ret (results_tmp3 rfl _ _ _) rfl ?_
        refine ⟨?_, q + q2, by first | rw [HWR.out, World.drewN_drewN] | rw [hw1, HWR.out, World.drewN_drewN]⟩
        rw [← hn.out]
        rfl
    | node b l k v r =>
      have HNB : Hid (∃ l' r' h n, NodeAt w b (ek k) (ev v) l' r' h n) := by
        have h0 : NodeAt wr b (ek k) (ev v) l.ptr r.ptr (1 + max l.high r.high : Nat) (1 + l.many + r.many : Nat) := HH.out.1
        rw [HWR.out] at h0
        exact ⟨_, _, _, _, ⟨h0.c0, h0.c1, h0.c2, h0.c3, h0.c4, h0.c5, h0.fz⟩⟩
      have hadr : (Tr.node b l k v r).addr = some ⟨b, 0, none⟩ := rfl
      have hhl : l.high + 1 ≤ (Tr.node b l k v r).high ∧ r.high + 1 ≤ (Tr.node b l k v r).high := by simp only [Tr.high]; omega
      have HWI : Hid (∀ n, I (wr.drewN n)) := fun n => ho.keep (fun _ => False) _ _ (show Wrote (fun _ => False) w (wr.drewN n) by rw [HWR.out]; exact ((Wrote.refl _ w).drewN _).drewN _) (fun _ h => h.elim) HI.out
      obtain ⟨cv, hcv⟩ : ∃ cv, c k key = cv := ⟨_, rfl⟩
      have HCL : Hid (∀ n, Calls Try.prog g (#[.int .i64 k, .int .i64 key] ++ cb) (wr.drewN n) fun e w' => e = .returned (.int .i64 cv) ∧ ∃ q, w' = (wr.drewN n).drewN q) := fun n => by
        rw [← hcv]
        exact ho.call (wr.drewN n) k key (HWI.out n)
      have HCV := hid hcv
      have c0M : wr.cell? ⟨M, 0, none⟩ = some (.func (.func g) #[] cb) := by rw [HWR.out]; exact H.out.ord
      have n0 := HH.out.1.c0
      have HHq : Hid (∀ n, Held ek ev (wr.drewN n) (.node b l k v r)) := fun n => HH.out.drewN n
      have HQQ : Hid (∀ n, wr.drewN n = w.drewN (q + n)) := fun n => by rw [HWR.out, World.drewN_drewN]
      clear hcv HWI
      go_wp2_with fail
      go_quiet (refine Calls.quiet_of (HCL.out _))
      have HZ := hid (HHq.out nq)
      have hwz0 := HQQ.out nq
      clear HCL HHq HQQ n0 c0M HH HWR
      generalize hz : wr.drewN nq = wz at *
      have HWZ := hid hwz0
      generalize q + nq = qz at *
      clear hz hwz0
      have n2 : wz.cell? ⟨b, 2, none⟩ = some l.ptr := HZ.out.1.c2
      have n3 : wz.cell? ⟨b, 3, none⟩ = some r.ptr := HZ.out.1.c3
      by_cases g1 : cv < 0
      · have HR : Hid ((Tr.ceil c key r).or (best.map fun b => b.2) = Tr.ceil c key t) := by
          show _ = _
          rw [← HJ.out]
          show _ = (if c k key < 0 then Tr.ceil c key r else (Tr.ceil c key l).or (some (k, v))).or _
          rw [if_pos (by rw [HCV.out]; exact g1)]
        go_wp2_with fail
        go_roundg r.high
        case measure => omega
        case rel => exact ⟨r, qz, best, rfl, rfl, hid HZ.out.2.2, HR, HBE, Nat.le_refl _, HWZ⟩
      · have HR : Hid ((Tr.ceil c key l).or ((some (b, k, v)).map fun b => b.2) = Tr.ceil c key t) := by
          show _ = _
          rw [← HJ.out]
          show _ = (if c k key < 0 then Tr.ceil c key r else (Tr.ceil c key l).or (some (k, v))).or _
          rw [if_neg (by rw [HCV.out]; exact g1), Option.or_assoc]
          rfl
        have HBN : Hid (∀ bb, some (b, k, v) = some bb → ∃ l r h n, NodeAt w bb.1 (ek bb.2.1) (ev bb.2.2) l r h n) := fun bb hb => by cases hb; exact HNB.out
        have hsub : (some (b, k, v)).map (fun b => (⟨b.1, 0, none⟩ : Addr)) = some ⟨b, 0, none⟩ := rfl
        have HQ2 : Hid (∀ n, wz.drewN n = w.drewN (qz + n)) := fun n => by rw [HWZ.out, World.drewN_drewN]
        have HS2 : Hid (∀ n, Held ek ev (wz.drewN n) l) := fun n => HZ.out.2.1.drewN n
        go_wp2_with fail
        go_quiet (fail)
        go_wp2_with fail
        go_roundg l.high
        case measure => omega
        case rel => exact ⟨l, _, some (b, k, v), rfl, rfl, hid (HS2.out _), HR, HBN, Nat.le_refl _, hid (HQ2.out _)⟩
end TI
end Go.Proofs.Ytfjeagffdijcoaa
namespace Go.Proofs.Ytfjeagffdijcoaa
namespace TU
open Go.RowKit Go.Shelf

set_option maxRecDepth 100000 in
set_option maxHeartbeats 1000000 in
theorem mapRank_any (g : Nat) (cb : Array Value) (c : Int → Int → Int) (I : World → Prop) (K : Nat → Prop) (ho : OrdFn g cb c I K) (w : World) (M : Nat) (t : Tr Int SV) (key : Int) (h : IsMap w M g cb t) (hm : t.many ≤ 70368744177664) (hi : I w) :
    Calls Try.prog 110 #[.pointer (some ⟨M, 0, none⟩), .int .u64 key] w fun e w' =>
      e = .returned (.int .i64 (Tr.rank c key t : Nat)) ∧ ∃ q, w' = w.drewN q := by
  have eg := ho.eg
  have c1 := h.root
  have H := hid h
  have HI := hid hi
  clear h hi
  go_enter Try.func110, Try.ntmps110
  go_wp2_with fail
  go_loopg [5, 6] t.high (fun gx sr sn wr => ∃ (sub : Tr Int SV) (q : Nat) (r0 : Nat), sn = .pointer sub.addr ∧ sr = .int .i64 r0 ∧ Hid (Held ek ev wr sub) ∧ Hid (r0 + Tr.rank c key sub = Tr.rank c key t) ∧ r0 + sub.many ≤ 70368744177664 ∧ sub.high ≤ gx ∧ Hid (wr = w.drewN q))
  case atStart => exact ⟨t, 0, 0, rfl, rfl, hid H.out.held, hid (by show _ = _; omega), by omega, Nat.le_refl _, hid rfl⟩
  case round =>
    obtain ⟨sub, q, r0, rfl, rfl, HH, HJ, hmm, hh, HWR⟩ := hrel
    cases sub with
    | nil =>
      have hadr : (Tr.nil : Tr Int SV).addr = none := rfl
      have hn : Hid (r0 = Tr.rank c key t) := by show _ = _; rw [← HJ.out]; rfl
      go_wp2_with fail
      refine bodyPost_ret (results_tmp rfl _ _ _) rfl ?_
      exact ⟨by rw [← hn.out]; rfl, q, HWR.out⟩
    | node b l k v r =>
      have hadr : (Tr.node b l k v r).addr = some ⟨b, 0, none⟩ := rfl
      have hhl : l.high + 1 ≤ (Tr.node b l k v r).high ∧ r.high + 1 ≤ (Tr.node b l k v r).high := by simp only [Tr.high]; omega
      have HWI : Hid (∀ n, I (wr.drewN n)) := fun n => ho.keep (fun _ => False) _ _ (show Wrote (fun _ => False) w (wr.drewN n) by rw [HWR.out]; exact ((Wrote.refl _ w).drewN _).drewN _) (fun _ h => h.elim) HI.out
      obtain ⟨cv, hcv⟩ : ∃ cv, c k key = cv := ⟨_, rfl⟩
      have HCL : Hid (∀ n, Calls Try.prog g (#[.int .u64 k, .int .u64 key] ++ cb) (wr.drewN n) fun e w' => e = .returned (.int .i64 cv) ∧ ∃ q, w' = (wr.drewN n).drewN q) := fun n => by
        rw [← hcv]
        exact ho.call (wr.drewN n) k key (HWI.out n)
      have HCV := hid hcv
      have c0M : wr.cell? ⟨M, 0, none⟩ = some (.func (.func g) #[] cb) := by rw [HWR.out]; exact H.out.ord
      have n0 := HH.out.1.c0
      have HHq : Hid (∀ n, Held ek ev (wr.drewN n) (.node b l k v r)) := fun n => HH.out.drewN n
      have HQQ : Hid (∀ n, wr.drewN n = w.drewN (q + n)) := fun n => by rw [HWR.out, World.drewN_drewN]
      clear hcv HWI
      go_wp2_with fail
      go_quiet (refine Calls.quiet_of (HCL.out _))
      have HZ := hid (HHq.out nq)
      have hwz0 := HQQ.out nq
      clear HCL HHq HQQ n0 c0M HH HWR
      generalize hz : wr.drewN nq = wz at *
      have HWZ := hid hwz0
      generalize q + nq = qz at *
      clear hz hwz0
      have n2 : wz.cell? ⟨b, 2, none⟩ = some l.ptr := HZ.out.1.c2
      have n3 : wz.cell? ⟨b, 3, none⟩ = some r.ptr := HZ.out.1.c3
      have hml : r0 + (1 + l.many + r.many) ≤ 70368744177664 := hmm
      clear hmm
      by_cases g1 : cv < 0
      · have HR : Hid (r0 + (1 + l.many) + Tr.rank c key r = Tr.rank c key t) := by
          show _ = _
          rw [← HJ.out]
          show _ = r0 + (if c k key < 0 then 1 + l.many + Tr.rank c key r else Tr.rank c key l)
          rw [if_pos (by rw [HCV.out]; exact g1)]
          omega
        have hw1 : IntKind.i64.wrap (1 + (l.many : Int)) = 1 + (l.many : Int) := wrap_mid _ (by omega) (by omega)
        have hw2 : IntKind.i64.wrap ((r0 : Int) + (1 + (l.many : Int))) = (r0 : Int) + (1 + (l.many : Int)) := wrap_mid _ (by omega) (by omega)
        go_wp2_with (go_at_call 135; refine (count_any _ l HZ.out.2.1).mono ?_; rintro e w1 ⟨rfl, hw1⟩; obtain rfl : wz = w1 := hw1.symm)
        go_roundg r.high
        case measure => omega
        case rel => exact ⟨r, qz, r0 + (1 + l.many), rfl, by congr 1, hid HZ.out.2.2, HR, by omega, Nat.le_refl _, HWZ⟩
      · have HR : Hid (r0 + Tr.rank c key l = Tr.rank c key t) := by
          show _ = _
          rw [← HJ.out]
          show _ = r0 + (if c k key < 0 then 1 + l.many + Tr.rank c key r else Tr.rank c key l)
          rw [if_neg (by rw [HCV.out]; exact g1)]
        go_wp2_with fail
        go_roundg l.high
        case measure => omega
        case rel => exact ⟨l, qz, r0, rfl, rfl, hid HZ.out.2.1, HR, by omega, Nat.le_refl _, HWZ⟩

end TU
end Go.Proofs.Ytfjeagffdijcoaa
