/- Layer 7: All and Between of a map of ints, as iterators. Layer 7: Between of a map of ints, as an iterator. Layer 7: a map, another instance (uint64 keys, bytes): printed from the texts for ints. Layer 7: a map, another instance (uint64 keys, bytes): printed from the texts for ints. -/
import Derived.Test.YtfjeagffdijcoaaWk
import Derived.Test.YtfjeagffdijcoaaTb
import Derived.StillTailTactics
import Derived.Test.YtfjeagffdijcoaaUb
namespace Go.Proofs.Ytfjeagffdijcoaa
open Go.RowKit Go.Shelf

theorem abides_drew {α : Type} {B : Nat} {J : List α → World → Prop} (h : AbidesFrom B J) (pre : List α) (W : World) (q : Nat) (hj : J pre W) : J pre (W.drewN q) :=
  h _ _ _ none hj (grown_drewN (World.grownBy_refl' W none) q) (fun r e => by cases e)

namespace TI
abbrev encP (x : Int × Int) : Array Value := #[.int .i64 x.1, .int .i64 x.2]

theorem all_any (w : World) (p : Option Addr) : Calls Try.prog 18 #[.pointer p] w fun e w' =>
    e = .returned (.func (.func 78) #[] #[.pointer (some ⟨w.heap.size, 0, none⟩)]) ∧ w' = w.alloc (.cells #[.pointer p] 22) := by
  go_enter Try.func18, Try.ntmps18
  go_wp2_with fail
  go_ret
  exact ⟨rfl, rfl⟩

theorem between_any (w : World) (p : Option Addr) (lo hi : Int) : Calls Try.prog 19 #[.pointer p, .int .i64 lo, .int .i64 hi] w fun e w' =>
    e = .returned (.func (.func 80) #[] #[.pointer (some ⟨w.heap.size, 0, none⟩), .pointer (some ⟨w.heap.size + 1, 0, none⟩), .pointer (some ⟨w.heap.size + 2, 0, none⟩)]) ∧
      w' = ((w.alloc (.cells #[.pointer p] 22)).alloc (.cells #[.int .i64 lo] 3)).alloc (.cells #[.int .i64 hi] 3) := by
  go_enter Try.func19, Try.ntmps19
  go_wp2_with fail
  go_ret
  exact ⟨rfl, rfl⟩

/-- 'for .. := range m.All()' of a nil map: nothing is told. -/
theorem all_nil_stops (n Bt N : Nat) (P : Nat → Prop) (w : World) (hBt : w.cell? ⟨Bt, 0, none⟩ = some (.pointer none)) :
    SeqStopsK Fence.wide n Try.prog 78 #[.pointer (some ⟨Bt, 0, none⟩)] encP (KeepsT P) (fun ys => ys = []) (fun pre => pre <+: []) N w := fun l J Jx W hW hJ _ hY h0 => by
  refine callsIn_wide.2 ?_
  have hc : W.cell? ⟨Bt, 0, none⟩ = some (.pointer none) := (hW.cell (p := ⟨Bt, 0, none⟩) (World.block_lt_of_cell? _ _ hBt)).trans hBt
  have H0 := hid h0
  clear hY hJ hBt h0
  show Calls _ _ #[_, _] _ _
  go_enter Try.func78, Try.ntmps78
  go_wp2_with fail
  go_end0
  exact ⟨⟨_, rfl⟩, .inl ⟨[], rfl, H0.out⟩⟩

/-- .. of a map: its pairs, in order; or the first of them. -/
theorem all_stops (n Bt M g : Nat) (cb : Array Value) (T : Tr Int Int) (P : Nat → Prop) (w : World) (hBt : w.cell? ⟨Bt, 0, none⟩ = some (.pointer (some ⟨M, 0, none⟩))) (hM : IsMap w M g cb T) (hP : ∀ x ∈ T.blocks, P x) :
    SeqStopsK Fence.wide n Try.prog 78 #[.pointer (some ⟨Bt, 0, none⟩)] encP (KeepsT P) (fun ys => ys = T.pairs) (fun pre => pre <+: T.pairs) T.pairs.length w := fun l J Jx W hW hJ _ hY h0 => by
  refine callsIn_wide.2 ?_
  have hc : W.cell? ⟨Bt, 0, none⟩ = some (.pointer (some ⟨M, 0, none⟩)) := (hW.cell (p := ⟨Bt, 0, none⟩) (World.block_lt_of_cell? _ _ hBt)).trans hBt
  have hMW := hM.below hW
  have c1 := hMW.root
  have hwk := callsIn_wide.1 (walkEach_in l T.pairs.length P J Jx (fun m pre x W hj hl => yield_any rfl m (hY pre x W hj hl)) (abides_drew hJ) T 0 [] W hMW.held hP h0 (by simp))
  have HWK := hid hwk
  clear hY hJ hBt h0 hwk hMW hM hP
  show Calls _ _ #[_, _] _ _
  go_enter Try.func78, Try.ntmps78
  go_wp2_with fail
  refine HWK.out.mono ?_
  rintro e W1 (⟨rfl, hj, _⟩ | ⟨rfl, q, hq, hx⟩)
  · go_wp2_with fail
    go_end0
    exact ⟨⟨_, rfl⟩, .inl ⟨_, rfl, by simpa using hj⟩⟩
  · go_wp2_with fail
    go_end0
    exact ⟨⟨_, rfl⟩, .inr ⟨q, hq, by simpa using hx⟩⟩

end TI
end Go.Proofs.Ytfjeagffdijcoaa
namespace Go.Proofs.Ytfjeagffdijcoaa
open Go.RowKit Go.Shelf
namespace TI
set_option maxRecDepth 100000 in
set_option maxHeartbeats 2000000 in
theorem between_nil_stops (n Bt Bl Bh N : Nat) (P : Nat → Prop) (w : World) (hBt : w.cell? ⟨Bt, 0, none⟩ = some (.pointer none)) :
    SeqStopsK Fence.wide n Try.prog 80 #[.pointer (some ⟨Bt, 0, none⟩), .pointer (some ⟨Bl, 0, none⟩), .pointer (some ⟨Bh, 0, none⟩)] encP (KeepsT P) (fun ys => ys = []) (fun pre => pre <+: []) N w := fun l J Jx W hW hJ _ hY h0 => by
  refine callsIn_wide.2 ?_
  have hc : W.cell? ⟨Bt, 0, none⟩ = some (.pointer none) := (hW.cell (p := ⟨Bt, 0, none⟩) (World.block_lt_of_cell? _ _ hBt)).trans hBt
  have H0 : Hid (∀ q, J [] (W.drewN q)) := fun q => abides_drew hJ _ _ q h0
  clear hY hJ hBt h0
  show Calls _ _ #[_, _, _, _] _ _
  go_enter Try.func80, Try.ntmps80
  go_wp2_with fail
  go_quiet (fail)
  go_wp2_with fail
  go_end0
  exact ⟨⟨_, rfl⟩, .inl ⟨[], rfl, H0.out _⟩⟩


set_option maxRecDepth 100000 in
set_option maxHeartbeats 4000000 in
theorem between_stops (c : Int → Int → Int) (hc : WOrd c) (g : Nat) (cb : Array Value) (I : World → Prop) (eg : ∀ args w, (callFunc g args).run Try.prog w = .ok (.enter g args) w)
    (hcall : ∀ w a b, I w → Calls Try.prog g (#[.int .i64 a, .int .i64 b] ++ cb) w fun e w' => e = .returned (.int .i64 (c a b)) ∧ w' = w) (hI : ∀ w, I w)
    (n Bt Bl Bh M : Nat) (lo hi : Int) (T : Tr Int Int) (P : Nat → Prop) (w : World) (hBt : w.cell? ⟨Bt, 0, none⟩ = some (.pointer (some ⟨M, 0, none⟩))) (hBl : w.cell? ⟨Bl, 0, none⟩ = some (.int .i64 lo)) (hBh : w.cell? ⟨Bh, 0, none⟩ = some (.int .i64 hi)) (hM : IsMap w M g cb T) (hU : Up c T.pairs) (hP : ∀ x ∈ T.blocks, P x) :
    SeqStopsK Fence.wide n Try.prog 80 #[.pointer (some ⟨Bt, 0, none⟩), .pointer (some ⟨Bl, 0, none⟩), .pointer (some ⟨Bh, 0, none⟩)] encP (KeepsT P) (fun ys => ys = T.pairs.filter (inR c lo hi)) (fun pre => pre <+: T.pairs.filter (inR c lo hi)) (T.pairs.filter (inR c lo hi)).length w := fun l J Jx W hW hJ _ hY h0 => by
  refine callsIn_wide.2 ?_
  have k1 : W.cell? ⟨Bt, 0, none⟩ = some (.pointer (some ⟨M, 0, none⟩)) := (hW.cell (p := ⟨Bt, 0, none⟩) (World.block_lt_of_cell? _ _ hBt)).trans hBt
  have k2 : W.cell? ⟨Bl, 0, none⟩ = some (.int .i64 lo) := (hW.cell (p := ⟨Bl, 0, none⟩) (World.block_lt_of_cell? _ _ hBl)).trans hBl
  have k3 : W.cell? ⟨Bh, 0, none⟩ = some (.int .i64 hi) := (hW.cell (p := ⟨Bh, 0, none⟩) (World.block_lt_of_cell? _ _ hBh)).trans hBh
  have hMW := hM.below hW
  have c1 := hMW.root
  have c0 : W.cell? ⟨M, 0, none⟩ = some (.func (.func g) #[] cb) := hMW.ord
  have hJd := abides_drew hJ
  have hwk : ∀ q, _ := fun q => callsIn_wide.1 (walkIn_in g cb c hc I eg hcall (fun w q _ => hI _) lo hi l (T.pairs.filter (inR c lo hi)).length P J Jx (fun _ _ _ => hI _) (fun m pre x W hj hl => yield_any rfl m (hY pre x W hj hl)) hJd T 0 [] (W.drewN q) (hMW.held.drewN q) hP hU (hJd _ _ q h0) (by simp))
  have HWK := hid hwk
  have H0 : Hid (∀ q, J [] (W.drewN q)) := fun q => hJd _ _ q h0
  obtain ⟨cv, hcv⟩ : ∃ cv, c lo hi = cv := ⟨_, rfl⟩
  have HQ : Hid (∀ w', Calls Try.prog g (#[.int .i64 lo, .int .i64 hi] ++ cb) w' fun e w'' => e = .returned (.int .i64 cv) ∧ ∃ n, w'' = w'.drewN n) := fun w' => (hcall w' lo hi (hI _)).mono (by rintro e w'' ⟨rfl, rfl⟩; exact ⟨by rw [hcv], 0, rfl⟩)
  have HCV := hid hcv
  have HU := hid hU
  clear hY hJ hBt hBl hBh h0 hwk hMW hM hP hJd hcv hU hcall
  show Calls _ _ #[_, _, _, _] _ _
  go_enter Try.func80, Try.ntmps80
  go_wp2_with fail
  cases T with
  | nil =>
    have hadr : (Tr.nil : Tr Int Int).addr = none := rfl
    clear HQ HWK
    go_quiet (fail)
    go_wp2_with fail
    go_end0
    exact ⟨⟨_, rfl⟩, .inl ⟨[], rfl, H0.out _⟩⟩
  | node b tl k v tr =>
    have hadr : (Tr.node b tl k v tr).addr = some ⟨b, 0, none⟩ := rfl
    go_quiet (refine Calls.quiet_of (HQ.out _))
    clear HQ
    by_cases hle : cv ≤ 0
    · go_wp2_with fail
      generalize hWd : World.drewN W nq = Wd
      have j1 : Wd.cell? ⟨Bt, 0, none⟩ = some (.pointer (some ⟨M, 0, none⟩)) := by rw [← hWd]; exact k1
      have j2 : Wd.cell? ⟨Bl, 0, none⟩ = some (.int .i64 lo) := by rw [← hWd]; exact k2
      have j3 : Wd.cell? ⟨Bh, 0, none⟩ = some (.int .i64 hi) := by rw [← hWd]; exact k3
      have j4 : Wd.cell? ⟨M, 0, none⟩ = some (.func (.func g) #[] cb) := by rw [← hWd]; exact c0
      have j5 : Wd.cell? ⟨M, 1, none⟩ = some (.pointer (some ⟨b, 0, none⟩)) := by rw [← hWd]; exact c1
      have HW2 := hid (HWK.out (nq + 1))
      rw [← World.drewN_drewN, hWd] at HW2
      clear hWd k1 k2 k3 c0 c1 HWK
      go_still_tail 11, (by kernel_rfl)
      change wpList _ _ _ _ _ (World.drewN Wd 1)
      go_wp2_with fail
      refine HW2.out.mono ?_
      rintro e W1 (⟨rfl, hj, _⟩ | ⟨rfl, q, hq, hx⟩)
      · go_wp2_with fail
        go_end0
        exact ⟨⟨_, rfl⟩, .inl ⟨_, rfl, by simpa using hj⟩⟩
      · go_wp2_with fail
        go_end0
        exact ⟨⟨_, rfl⟩, .inr ⟨q, hq, by simpa using hx⟩⟩
    · have hgt : 0 < cv := by omega
      have he : Hid ([] = (Tr.node b tl k v tr).pairs.filter (inR c lo hi)) := by
        refine (List.filter_eq_nil_iff.2 ?_).symm
        intro x _
        simp only [inR, Bool.and_eq_true, decide_eq_true_eq, not_and]
        intro h1 h2
        have := hc.trans lo x.1 hi ((hc.flip lo x.1).2 h1) h2
        rw [HCV.out] at this
        exact hle this
      clear HWK hle
      go_wp2_with fail
      go_end0
      exact ⟨⟨_, rfl⟩, .inl ⟨[], he.out, H0.out _⟩⟩
end TI
end Go.Proofs.Ytfjeagffdijcoaa
namespace Go.Proofs.Ytfjeagffdijcoaa
open Go.RowKit Go.Shelf
namespace TU
abbrev encP (x : Int × SV) : Array Value := #[.int .u64 x.1, .slice x.2.1 x.2.2.1 x.2.2.2]

theorem between_any (w : World) (p : Option Addr) (lo hi : Int) : Calls Try.prog 97 #[.pointer p, .int .u64 lo, .int .u64 hi] w fun e w' =>
    e = .returned (.func (.func 137) #[] #[.pointer (some ⟨w.heap.size, 0, none⟩), .pointer (some ⟨w.heap.size + 1, 0, none⟩), .pointer (some ⟨w.heap.size + 2, 0, none⟩)]) ∧
      w' = ((w.alloc (.cells #[.pointer p] 150)).alloc (.cells #[.int .u64 lo] 60)).alloc (.cells #[.int .u64 hi] 60) := by
  go_enter Try.func97, Try.ntmps97
  go_wp2_with fail
  go_ret
  exact ⟨rfl, rfl⟩

end TU
end Go.Proofs.Ytfjeagffdijcoaa
namespace Go.Proofs.Ytfjeagffdijcoaa
open Go.RowKit Go.Shelf
namespace TU
set_option maxRecDepth 100000 in
set_option maxHeartbeats 2000000 in
theorem between_nil_stops (n Bt Bl Bh N : Nat) (P : Nat → Prop) (w : World) (hBt : w.cell? ⟨Bt, 0, none⟩ = some (.pointer none)) :
    SeqStopsK Fence.wide n Try.prog 137 #[.pointer (some ⟨Bt, 0, none⟩), .pointer (some ⟨Bl, 0, none⟩), .pointer (some ⟨Bh, 0, none⟩)] encP (KeepsT P) (fun ys => ys = []) (fun pre => pre <+: []) N w := fun l J Jx W hW hJ _ hY h0 => by
  refine callsIn_wide.2 ?_
  have hc : W.cell? ⟨Bt, 0, none⟩ = some (.pointer none) := (hW.cell (p := ⟨Bt, 0, none⟩) (World.block_lt_of_cell? _ _ hBt)).trans hBt
  have H0 : Hid (∀ q, J [] (W.drewN q)) := fun q => abides_drew hJ _ _ q h0
  clear hY hJ hBt h0
  show Calls _ _ #[_, _, _, _] _ _
  go_enter Try.func137, Try.ntmps137
  go_wp2_with fail
  go_quiet (fail)
  go_wp2_with fail
  go_end0
  exact ⟨⟨_, rfl⟩, .inl ⟨[], rfl, H0.out _⟩⟩


set_option maxRecDepth 100000 in
set_option maxHeartbeats 4000000 in
theorem between_stops (c : Int → Int → Int) (hc : WOrd c) (g : Nat) (cb : Array Value) (I : World → Prop) (eg : ∀ args w, (callFunc g args).run Try.prog w = .ok (.enter g args) w)
    (hcall : ∀ w a b, I w → Calls Try.prog g (#[.int .u64 a, .int .u64 b] ++ cb) w fun e w' => e = .returned (.int .i64 (c a b)) ∧ w' = w) (hI : ∀ w, I w)
    (n Bt Bl Bh M : Nat) (lo hi : Int) (T : Tr Int SV) (P : Nat → Prop) (w : World) (hBt : w.cell? ⟨Bt, 0, none⟩ = some (.pointer (some ⟨M, 0, none⟩))) (hBl : w.cell? ⟨Bl, 0, none⟩ = some (.int .u64 lo)) (hBh : w.cell? ⟨Bh, 0, none⟩ = some (.int .u64 hi)) (hM : IsMap w M g cb T) (hU : Up c T.pairs) (hP : ∀ x ∈ T.blocks, P x) :
    ∀ (l : Nat) (J Jx : List (Int × SV) → World → Prop) (W : World), Below w.heap.size w W → AbidesFrom W.heap.size J → AbidesFrom W.heap.size Jx →
      (∀ pre x W1, J pre W1 → pre ++ [x] <+: T.pairs.filter (inR c lo hi) → YieldAt Fence.wide (n - 1) Try.prog l (encP x) W1 fun e W' => (e = .returned (.bool true) ∧ J (pre ++ [x]) W' ∧ KeepsT P W1 W') ∨ (e = .returned (.bool false) ∧ Jx (pre ++ [x]) W')) →
      J [] W → CallsIn Fence.wide n Try.prog 137 (#[.func (.yield l) #[] #[]] ++ #[.pointer (some ⟨Bt, 0, none⟩), .pointer (some ⟨Bl, 0, none⟩), .pointer (some ⟨Bh, 0, none⟩)]) W fun e W' => (∃ v, e = .returned v) ∧ ((∃ xs, xs = T.pairs.filter (inR c lo hi) ∧ J xs W') ∨ (∃ pre, pre <+: T.pairs.filter (inR c lo hi) ∧ Jx pre W')) := fun l J Jx W hW hJ _ hY h0 => by
  refine callsIn_wide.2 ?_
  have k1 : W.cell? ⟨Bt, 0, none⟩ = some (.pointer (some ⟨M, 0, none⟩)) := (hW.cell (p := ⟨Bt, 0, none⟩) (World.block_lt_of_cell? _ _ hBt)).trans hBt
  have k2 : W.cell? ⟨Bl, 0, none⟩ = some (.int .u64 lo) := (hW.cell (p := ⟨Bl, 0, none⟩) (World.block_lt_of_cell? _ _ hBl)).trans hBl
  have k3 : W.cell? ⟨Bh, 0, none⟩ = some (.int .u64 hi) := (hW.cell (p := ⟨Bh, 0, none⟩) (World.block_lt_of_cell? _ _ hBh)).trans hBh
  have hMW := hM.below hW
  have c1 := hMW.root
  have c0 : W.cell? ⟨M, 0, none⟩ = some (.func (.func g) #[] cb) := hMW.ord
  have hJd := abides_drew hJ
  have hwk : ∀ q, _ := fun q => callsIn_wide.1 (walkIn_in g cb c hc I eg hcall (fun w q _ => hI _) lo hi l (T.pairs.filter (inR c lo hi)) P J Jx (fun _ _ _ => hI _) (fun m pre x W hj hl => yield_any rfl m (hY pre x W hj hl)) hJd T 0 [] (W.drewN q) (hMW.held.drewN q) hP hU (hJd _ _ q h0) (List.prefix_refl _))
  have HWK := hid hwk
  have H0 : Hid (∀ q, J [] (W.drewN q)) := fun q => hJd _ _ q h0
  obtain ⟨cv, hcv⟩ : ∃ cv, c lo hi = cv := ⟨_, rfl⟩
  have HQ : Hid (∀ w', Calls Try.prog g (#[.int .u64 lo, .int .u64 hi] ++ cb) w' fun e w'' => e = .returned (.int .i64 cv) ∧ ∃ n, w'' = w'.drewN n) := fun w' => (hcall w' lo hi (hI _)).mono (by rintro e w'' ⟨rfl, rfl⟩; exact ⟨by rw [hcv], 0, rfl⟩)
  have HCV := hid hcv
  have HU := hid hU
  clear hY hJ hBt hBl hBh h0 hwk hMW hM hP hJd hcv hU hcall
  show Calls _ _ #[_, _, _, _] _ _
  go_enter Try.func137, Try.ntmps137
  go_wp2_with fail
  cases T with
  | nil =>
    have hadr : (Tr.nil : Tr Int SV).addr = none := rfl
    clear HQ HWK
    go_quiet (fail)
    go_wp2_with fail
    go_end0
    exact ⟨⟨_, rfl⟩, .inl ⟨[], rfl, H0.out _⟩⟩
  | node b tl k v tr =>
    have hadr : (Tr.node b tl k v tr).addr = some ⟨b, 0, none⟩ := rfl
    go_quiet (refine Calls.quiet_of (HQ.out _))
    clear HQ
    by_cases hle : cv ≤ 0
    · go_wp2_with fail
      generalize hWd : World.drewN W nq = Wd
      have j1 : Wd.cell? ⟨Bt, 0, none⟩ = some (.pointer (some ⟨M, 0, none⟩)) := by rw [← hWd]; exact k1
      have j2 : Wd.cell? ⟨Bl, 0, none⟩ = some (.int .u64 lo) := by rw [← hWd]; exact k2
      have j3 : Wd.cell? ⟨Bh, 0, none⟩ = some (.int .u64 hi) := by rw [← hWd]; exact k3
      have j4 : Wd.cell? ⟨M, 0, none⟩ = some (.func (.func g) #[] cb) := by rw [← hWd]; exact c0
      have j5 : Wd.cell? ⟨M, 1, none⟩ = some (.pointer (some ⟨b, 0, none⟩)) := by rw [← hWd]; exact c1
      have HW2 := hid (HWK.out (nq + 1))
      rw [← World.drewN_drewN, hWd] at HW2
      clear hWd k1 k2 k3 c0 c1 HWK
      go_still_tail 11, (by kernel_rfl)
      change wpList _ _ _ _ _ (World.drewN Wd 1)
      go_wp2_with fail
      refine HW2.out.mono ?_
      rintro e W1 (⟨rfl, hj, _⟩ | ⟨rfl, q, hq, hx⟩)
      · go_wp2_with fail
        go_end0
        exact ⟨⟨_, rfl⟩, .inl ⟨_, rfl, by simpa using hj⟩⟩
      · go_wp2_with fail
        go_end0
        exact ⟨⟨_, rfl⟩, .inr ⟨q, hq, by simpa using hx⟩⟩
    · have hgt : 0 < cv := by omega
      have he : Hid ([] = (Tr.node b tl k v tr).pairs.filter (inR c lo hi)) := by
        refine (List.filter_eq_nil_iff.2 ?_).symm
        intro x _
        simp only [inR, Bool.and_eq_true, decide_eq_true_eq, not_and]
        intro h1 h2
        have := hc.trans lo x.1 hi ((hc.flip lo x.1).2 h1) h2
        rw [HCV.out] at this
        exact hle this
      clear HWK hle
      go_wp2_with fail
      go_end0
      exact ⟨⟨_, rfl⟩, .inl ⟨[], he.out, H0.out _⟩⟩
end TU
end Go.Proofs.Ytfjeagffdijcoaa
