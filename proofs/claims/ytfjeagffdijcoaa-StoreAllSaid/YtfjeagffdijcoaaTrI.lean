/- Layer 7: At of a map of ints. -/
import Derived.Test.YtfjeagffdijcoaaTrH
namespace Go.Proofs.Ytfjeagffdijcoaa
namespace TI
open Go.RowKit Go.Shelf

theorem IsMap.drewN {w : World} {M g : Nat} {cb : Array Value} {t : Tr Int Int} (h : IsMap w M g cb t) (q : Nat) : IsMap (w.drewN q) M g cb t := h.wrote (S := fun _ => False) ((Wrote.refl _ w).drewN q) id (fun _ _ => id)

theorem told_nil (w : World) : Calls Try.prog 90 #[.pointer none] w fun e w' => e = .returned (.tuple #[.int .i64 0, .int .i64 0, .bool false]) ∧ w' = w := by
  go_enter Try.func90, Try.ntmps90
  go_wp2_with fail
  refine bodyPost_ret (results_tmp3 rfl _ _ _) rfl ?_
  exact ⟨rfl, rfl⟩

theorem told_any (w : World) (b : Nat) (k v : Int) (l r : Value) (h n : Int) (hn : NodeAt w b (ek k) (ev v) l r h n) : Calls Try.prog 90 #[.pointer (some ⟨b, 0, none⟩)] w fun e w' => e = .returned (.tuple #[.int .i64 k, .int .i64 v, .bool true]) ∧ ∃ q, w' = w.drewN q := by
  have c0 := hn.c0
  have c1 := hn.c1
  clear hn
  go_enter Try.func90, Try.ntmps90
  go_wp2_with fail
  go_quiet (fail)
  go_wp2_with fail
  refine bodyPost_ret (results_tmp3 rfl _ _ _) rfl ?_
  exact ⟨rfl, _, rfl⟩

set_option maxRecDepth 100000 in
set_option maxHeartbeats 1000000 in
theorem mapAt_any (w : World) (M g : Nat) (cb : Array Value) (t : Tr Int Int) (h : IsMap w M g cb t) (hm : t.many ≤ 70368744177664) (i : Nat) (kk vv : Int) (hi : t.pairs[i]? = some (kk, vv)) : Calls Try.prog 33 #[.pointer (some ⟨M, 0, none⟩), .int .i64 i] w fun e w' =>
    e = .returned (.tuple #[.int .i64 kk, .int .i64 vv, .bool true]) ∧ ∃ q, w' = w.drewN q := by
  have c1 := h.root
  have hlen : i < t.many := by rw [Tr.many_pairs]; exact (List.getElem?_eq_some_iff.1 hi).1
  have H := hid h
  have HI := hid hi
  have hb1 : decide ((i : Int) < 0) = false := by simp
  have hb2 : decide (t.many ≤ i) = false := by simpa using hlen
  have hb3 : decide ((t.many : Int) ≤ (i : Int)) = false := by simpa using hlen
  clear h hi hlen
  go_enter Try.func33, Try.ntmps33
  go_wp2_with (go_at_call 84; refine (count_any w t H.out.held).mono ?_; rintro e w1 ⟨rfl, hw1⟩; obtain rfl : w = w1 := hw1.symm)
  clear hb1 hb2 hb3
  go_loopg [1, 7] t.high (fun gx si sn wr => ∃ (sub : Tr Int Int) (j : Nat), sn = .pointer sub.addr ∧ si = .int .i64 j ∧ Hid (Held ek ev wr sub) ∧ Hid (sub.pairs[j]? = some (kk, vv)) ∧ sub.high ≤ gx ∧ sub.many ≤ 70368744177664 ∧ wr = w)
  case atStart => exact ⟨t, i, rfl, rfl, hid H.out.held, HI, Nat.le_refl _, hm, rfl⟩
  case round =>
    obtain ⟨sub, j, rfl, rfl, HH, HJ, hh, hmm, rfl⟩ := hrel
    cases sub with
    | nil => exact absurd HJ.out (by simp [Tr.pairs])
    | node b l k v r =>
      have hadr : (Tr.node b l k v r).addr = some ⟨b, 0, none⟩ := rfl
      have c2 := HH.out.1.c2
      have c3 := HH.out.1.c3
      have hml : l.many + r.many ≤ 70368744177663 := by simp only [Tr.many] at hmm; omega
      have hjm : j < 1 + l.many + r.many := by
        have := (List.getElem?_eq_some_iff.1 HJ.out).1
        rw [← Tr.many_pairs] at this
        simpa [Tr.many] using this
      have hpl : l.pairs.length = l.many := (Tr.many_pairs l).symm
      have HJ2 : Hid ((l.pairs ++ (k, v) :: r.pairs)[j]? = some (kk, vv)) := HJ.out
      have hhl : l.high + 1 ≤ (Tr.node b l k v r).high ∧ r.high + 1 ≤ (Tr.node b l k v r).high := by simp only [Tr.high]; omega
      clear hmm
      rcases Nat.lt_trichotomy j l.many with g1 | g1 | g1
      · have hne : ((j : Int) != (l.many : Int)) = true := by simpa using (by omega : (j : Int) ≠ l.many)
        have hlt : (j : Int) < (l.many : Int) := by omega
        have HR : Hid (l.pairs[j]? = some (kk, vv)) := by show _ = _; rw [← HJ2.out, List.getElem?_append_left (by omega)]
        go_wp2_with (go_at_call 84; refine (count_any _ l HH.out.2.1).mono ?_; rintro e w1 ⟨rfl, rfl⟩)
        go_roundg l.high
        case measure => omega
        case rel => exact ⟨l, j, rfl, rfl, hid HH.out.2.1, HR, Nat.le_refl _, by omega, rfl⟩
      · have hne : ((j : Int) != (l.many : Int)) = false := by simpa using (by omega : (j : Int) = l.many)
        have HR : Hid (k = kk ∧ v = vv) := by
          have := HJ2.out
          rw [List.getElem?_append_right (by omega), show j - l.pairs.length = 0 by omega] at this
          exact (by simpa using this : k = kk ∧ v = vv)
        have HN := hid HH.out.1
        clear g1
        go_wp2_with (first | (go_at_call 84; refine (count_any _ l HH.out.2.1).mono ?_; rintro e w1 ⟨rfl, rfl⟩) | (go_at_call 90; refine (told_any _ b k v _ _ _ _ HN.out).mono ?_; rintro e w1 ⟨rfl, q, rfl⟩))
        refine bodyPost_ret (results_tmp3 rfl _ _ _) rfl ?_
        obtain ⟨rfl, rfl⟩ := HR.out
        exact ⟨rfl, q, rfl⟩
      · have hne : ((j : Int) != (l.many : Int)) = true := by simpa using (by omega : (j : Int) ≠ l.many)
        have hlt : ¬ (j : Int) < (l.many : Int) := by omega
        have HR : Hid (r.pairs[j - (l.many + 1)]? = some (kk, vv)) := by
          show _ = _
          rw [← HJ2.out, List.getElem?_append_right (by omega), show j - l.pairs.length = (j - (l.many + 1)) + 1 by omega]
          rfl
        have hw1 : IntKind.i64.wrap ((l.many : Int) + 1) = (l.many : Int) + 1 := wrap_small _ (by omega) (by omega)
        have hw2 : IntKind.i64.wrap ((j : Int) - ((l.many : Int) + 1)) = (j : Int) - ((l.many : Int) + 1) := wrap_mid _ (by omega) (by omega)
        go_wp2_with (go_at_call 84; refine (count_any _ l HH.out.2.1).mono ?_; rintro e w1 ⟨rfl, rfl⟩)
        go_roundg r.high
        case measure => omega
        case rel => exact ⟨r, j - (l.many + 1), rfl, by first | (congr 1; omega) | go_num, hid HH.out.2.2, HR, Nat.le_refl _, by omega, rfl⟩
end TI
end Go.Proofs.Ytfjeagffdijcoaa
