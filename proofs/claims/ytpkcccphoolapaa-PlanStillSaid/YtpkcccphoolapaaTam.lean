/- Layer 15: the law's tamed: a layout that may be. -/
import Derived.Test.YtpkcccphoolapaaEvP
import Derived.Test.YtpkcccphoolapaaFaultR
import Derived.Test.YtpkcccphoolapaaOpA
import Derived.Deep.RegionHeld3
namespace Go.Proofs.Ytpkcccphoolapaa
open Go.RowKit

abbrev OwnKeys (w : World) (base : Nat) (v : Value) (l : List Int) : Prop := w.ownsRow base 59 1 v l.length (l.flatMap encKey)
theorem infoU64 : (Try.prog.info? 59).map (fun i => (i.zero, i.size, i.bytes)) = some (some (.int .u64 0), 1, 8) := by kernel_rfl
theorem encKey_one (x : Int) : ∀ u ∈ encKey x, u.oneCell' = true := by intro u hu; simp [encKey] at hu; subst hu; rfl

/-- what tamed answers -/
def TamedOk (w w' : World) (hosts : Int) (l : List Seg) (ks : List Int) (v1 v2 : Value) : Prop :=
  ∃ H : Nat, hosts = (H : Int) ∧ 1 ≤ H ∧ H ≤ 16 ∧ (Rng.faultL l).2 = 0 ∧ l.length ≤ 4096 ∧ ks.length ≤ 4096 ∧ OwnSegs w' w.heap.size v1 (tameS H l) ∧ OwnKeys w' w.heap.size v2 (tameK ks)

def TamedRes (w w' : World) (hosts : Int) (l : List Seg) (ks : List Int) (e : Ending) : Prop :=
  ∃ v1 v2 ok, e = .returned (.tuple #[v1, v2, .bool ok]) ∧ (ok = true → TamedOk w w' hosts l ks v1 v2) ∧ Below w.heap.size w w'

set_option maxRecDepth 100000 in
set_option maxHeartbeats 8000000 in
theorem tamed_any (w : World) (hosts : Int) (A : Option Addr) (n c : Nat) (l : List Seg) (A' : Option Addr) (n' c' : Nat) (ks : List Int) (hl : l.length = n) (hbytes : n * 24 ≤ 140737488351232) (hok : ∀ s ∈ l, okSeg s) (hR : Segs w.heap.size w A l)
    (hl' : ks.length = n') (hbytes' : n' * 8 ≤ 140737488351232) (hR' : Keys w.heap.size w A' ks) :
    Calls Try.prog 28 #[.int .i64 hosts, .slice A n c, .slice A' n' c'] w fun e w' => TamedRes w w' hosts l ks e := by
  subst hl
  subst hl'
  have hfa := faultRef_any w A l.length c l rfl hbytes hR
  have HFA := hid hfa
  have HFO := hid (fun h => Rng.fault_ok (next := 0) (full := false) (i := 0) hok (fun _ => ⟨Int.le_refl _, by rw [maxK_eq]; omega⟩) h)
  have HOK := hid hok
  have HR := hid hR
  have HR' := hid hR'
  clear hfa hok hR hR'
  have hF0 : ∀ e, e = (Rng.faultL l).2 → Hid ((Rng.faultL l).2 = e) := fun e h => hid h.symm
  obtain ⟨fe, hfe⟩ : ∃ e, e = (Rng.faultL l).2 := ⟨_, rfl⟩
  have HFE := hF0 fe hfe
  rw [← hfe] at HFA
  clear hF0 hfe
  generalize ((Rng.faultL l).1 : Nat) = fi at HFA
  by_cases h1 : hosts < 1
  · have b1 : decide (hosts < 1) = true := by simpa using h1
    clear h1
    go_enter Try.func28, Try.ntmps28
    go_wp2_with fail
    refine HFA.out.mono ?_
    rintro e w1 ⟨rfl, q, rfl⟩
    go_wp2_with fail
    go_ret3
    exact ⟨_, _, false, rfl, fun h => (by cases h), below_drewT (Below.refl _ _) q⟩
  have b1 : decide (hosts < 1) = false := by simpa using h1
  by_cases h2 : 16 < hosts
  · have b2 : decide (hosts > 16) = true := by simpa using h2
    have b2' : decide (16 < hosts) = true := by simpa using h2
    clear h1 h2
    go_enter Try.func28, Try.ntmps28
    go_wp2_with fail
    refine HFA.out.mono ?_
    rintro e w1 ⟨rfl, q, rfl⟩
    go_wp2_with fail
    go_ret3
    exact ⟨_, _, false, rfl, fun h => (by cases h), below_drewT (Below.refl _ _) q⟩
  have b2 : decide (hosts > 16) = false := by simpa using h2
  have b2' : decide (16 < hosts) = false := by simpa using h2
  by_cases h3 : fe = 0
  case neg =>
    have b3 : (fe != 0) = true := by simpa using h3
    clear h1 h2 h3
    go_enter Try.func28, Try.ntmps28
    go_wp2_with fail
    refine HFA.out.mono ?_
    rintro e w1 ⟨rfl, q, rfl⟩
    go_wp2_with fail
    go_ret3
    exact ⟨_, _, false, rfl, fun h => (by cases h), below_drewT (Below.refl _ _) q⟩
  case pos =>
  subst h3
  by_cases h4 : 4096 < l.length
  · have b4 : decide ((l.length : Int) > 4096) = true := by simp; omega
    have b4' : decide (4096 < (l.length : Int)) = true := by simp; omega
    have b4'' : decide (4096 < l.length) = true := by simpa using h4
    clear h1 h2 h4
    go_enter Try.func28, Try.ntmps28
    go_wp2_with fail
    refine HFA.out.mono ?_
    rintro e w1 ⟨rfl, q, rfl⟩
    go_wp2_with fail
    go_ret3
    exact ⟨_, _, false, rfl, fun h => (by cases h), below_drewT (Below.refl _ _) q⟩
  have b4 : decide ((l.length : Int) > 4096) = false := by simp; omega
  have b4' : decide (4096 < (l.length : Int)) = false := by simp; omega
  have b4'' : decide (4096 < l.length) = false := by simpa using h4
  by_cases h5 : 4096 < ks.length
  · have b5 : decide ((ks.length : Int) > 4096) = true := by simp; omega
    have b5' : decide (4096 < (ks.length : Int)) = true := by simp; omega
    have b5'' : decide (4096 < ks.length) = true := by simpa using h5
    clear h1 h2 h4 h5
    go_enter Try.func28, Try.ntmps28
    go_wp2_with fail
    refine HFA.out.mono ?_
    rintro e w1 ⟨rfl, q, rfl⟩
    go_wp2_with fail
    go_ret3
    exact ⟨_, _, false, rfl, fun h => (by cases h), below_drewT (Below.refl _ _) q⟩
  have b5 : decide ((ks.length : Int) > 4096) = false := by simp; omega
  have b5' : decide (4096 < (ks.length : Int)) = false := by simp; omega
  have b5'' : decide (4096 < ks.length) = false := by simpa using h5
  obtain ⟨H, rfl⟩ : ∃ H : Nat, hosts = (H : Int) := ⟨hosts.toNat, by omega⟩
  have hH1 : 1 ≤ H := by omega
  have hH2 : H ≤ 16 := by omega
  have hH0 : ¬ H = 0 := by omega
  have hl4 : l.length ≤ 4096 := by omega
  have hk4 : ks.length ≤ 4096 := by omega
  have hwH : IntKind.u8.wrap (H : Int) = (H : Int) := IntWalk.u8_in _ ⟨by omega, by omega⟩
  have hzH : ((H : Int) == 0) = false := by rw [beq_eq_false_iff_ne]; omega
  clear h1 h2 h4 h5
  go_enter Try.func28, Try.ntmps28
  go_wp2_with fail
  refine HFA.out.mono ?_
  rintro e w1 ⟨rfl, q, rfl⟩
  go_wp2_with fail
  go_loopg [11, 12] l.length (fun gx so si wr => ∃ (i : Nat) (oA : Option Addr) (oc : Nat), si = .int .i64 i ∧ so = .slice oA i oc ∧ i ≤ l.length ∧ l.length - i ≤ gx ∧ Hid (OwnSegs wr w.heap.size (.slice oA i oc) (tameS H (l.take i))) ∧ Hid (Below w.heap.size w wr))
  case atStart => exact ⟨0, none, 0, rfl, rfl, Nat.zero_le _, Nat.le_refl _, hid (World.ownsRow_nil _ _ _ _), hid (below_drewT (Below.refl _ _) q)⟩
  case round =>
    obtain ⟨i, oA, oc, rfl, rfl, hil, hgx, HO, HB⟩ := hrel
    by_cases hlt : i < l.length
    · have hii : (i : Int) < (l.length : Int) := by omega
      have hi0 : (0 : Int) ≤ (i : Int) := by omega
      have hwi : IntKind.i64.wrap ((i : Int) + 1) = (i : Int) + 1 := wrap_small _ (by omega) (by omega)
      obtain ⟨b, off, s, hs, rfl, hb, c0', c1', c2'⟩ := Segs.at3 HR.out i hlt
      have c0 := Tfact HB.out (a := ⟨b, _, none⟩) hb c0'
      have c1 := Tfact HB.out (a := ⟨b, _, none⟩) hb c1'
      have c2 := Tfact HB.out (a := ⟨b, _, none⟩) hb c2'
      have hs0 : 0 ≤ s.host := by have := HOK.out s (List.mem_of_getElem? hs.out); unfold okSeg at this; omega
      have hln : (tameS H (l.take i)).length = i := by simp [tameS]; omega
      have HSN : Hid (tameS H (l.take (i + 1)) = tameS H (l.take i) ++ [⟨s.lo, s.hi, s.host % (H : Int)⟩]) := hid (by unfold tameS; rw [List.take_add_one, hs.out]; simp)
      have HLN := hid hln
      have HBD : Hid (Below w.heap.size w (World.drew wr)) := hid (below_drewT HB.out 1)
      have HOD : Hid (World.ownsRow (World.drew wr) w.heap.size 67 3 (.slice oA i oc) (tameS H (l.take i)).length ((tameS H (l.take i)).flatMap encSeg)) := HO
      have HKA : Hid (∀ o, ((World.drew wr).alloc o).cell? ⟨b, off + i * 3, none⟩ = some (.int .u64 s.lo) ∧ ((World.drew wr).alloc o).cell? ⟨b, off + i * 3 + 1, none⟩ = some (.int .u64 s.hi) ∧ ((World.drew wr).alloc o).cell? ⟨b, off + i * 3 + 2, none⟩ = some (.int .u8 s.host)) := hid fun o => by
        have hbs : b < (World.drew wr).heap.size := Nat.lt_of_lt_of_le hb HB.out.size
        exact ⟨(World.cell?_alloc_past _ _ _ hbs).trans c0, (World.cell?_alloc_past _ _ _ hbs).trans c1, (World.cell?_alloc_past _ _ _ hbs).trans c2⟩
      have HKE : Hid (∀ W2 : World, Below w.heap.size w W2 → W2.cell? ⟨b, off + i * 3, none⟩ = some (.int .u64 s.lo) ∧ W2.cell? ⟨b, off + i * 3 + 1, none⟩ = some (.int .u64 s.hi) ∧ W2.cell? ⟨b, off + i * 3 + 2, none⟩ = some (.int .u8 s.host)) := hid fun W2 h2 =>
        ⟨Tfact h2 (a := ⟨b, _, none⟩) hb c0', Tfact h2 (a := ⟨b, _, none⟩) hb c1', Tfact h2 (a := ⟨b, _, none⟩) hb c2'⟩
      clear hln c0' c1' c2'
      go_wp2_with fail
      refine wp_region_noPanic ?_
      refine wp_region_held_drew (S := (fun w' => w'.cell? ⟨b, off + i * 3, none⟩ = some (.int .u64 s.lo) ∧ w'.cell? ⟨b, off + i * 3 + 1, none⟩ = some (.int .u64 s.hi) ∧ w'.cell? ⟨b, off + i * 3 + 2, none⟩ = some (.int .u8 s.host))) (by kernel_rfl) ?_ (fun hHeld => ?_)
      · exact ⟨c0, c1, c2⟩
      refine wpAnyH_take (i := 0) (v := ?_) rfl (by kernel_rfl) (by kernel_rfl) (by kernel_rfl) (fun _ _ _ h => h) (Or.inl ⟨by rfl, ?_⟩) (by assumption) ?_
      rotate_left 1
      · (intro w hSw; (try dsimp only at hSw); go_simp) <;> (with_reducible rfl)
      (try simp only [Act.put, List.setIfInBounds_toArray])
      refine wpAnyH_take (i := 1) (v := ?_) rfl (by kernel_rfl) (by kernel_rfl) (by kernel_rfl) (fun _ _ _ h => h) (Or.inl ⟨by rfl, ?_⟩) (by assumption) ?_
      rotate_left 1
      · (intro w hSw; (try dsimp only at hSw); go_simp) <;> (with_reducible rfl)
      (try simp only [Act.put])
      refine wpAnyH_take (i := 2) (v := ?_) rfl (by kernel_rfl) (by kernel_rfl) (by kernel_rfl) (fun _ _ _ h => h) (Or.inl ⟨by rfl, ?_⟩) (by assumption) ?_
      rotate_left 1
      · (intro w hSw; (try dsimp only at hSw); go_simp) <;> (with_reducible rfl)
      (try simp only [Act.put])
      refine wpAnyH_take (i := 3) (v := ?_) rfl (by kernel_rfl) (by kernel_rfl) (by kernel_rfl) (fun _ _ _ h => h) (Or.inl ⟨by rfl, ?_⟩) (by assumption) ?_
      rotate_left 1
      · (intro w hSw; (try dsimp only at hSw); go_simp) <;> (with_reducible rfl)
      (try simp only [Act.put])
      refine wpAnyH_take (i := 4) (v := ?_) rfl (by kernel_rfl) (by kernel_rfl) (by kernel_rfl) (fun _ _ _ h => h) (Or.inl ⟨by rfl, ?_⟩) (by assumption) ?_
      rotate_left 1
      · (intro w hSw; (try dsimp only at hSw); go_simp) <;> (with_reducible rfl)
      (try simp only [Act.put])
      refine wpAnyH_take (i := 5) (v := ?_) rfl (by kernel_rfl) (by kernel_rfl) (by kernel_rfl) (fun _ _ _ h => h) (Or.inl ⟨by rfl, ?_⟩) (by assumption) ?_
      rotate_left 1
      · (intro w hSw; (try dsimp only at hSw); go_simp) <;> (with_reducible rfl)
      (try simp only [Act.put])
      refine wpAnyH_take (i := 6) (v := ?_) rfl (by kernel_rfl) (by kernel_rfl) (by kernel_rfl) (fun _ _ _ h => h) (Or.inl ⟨by rfl, ?_⟩) (by assumption) ?_
      rotate_left 1
      · (intro w hSw; (try dsimp only at hSw); go_simp) <;> (with_reducible rfl)
      (try simp only [Act.put])
      refine wpAnyH_take (i := 7) (v := ?_) rfl (by kernel_rfl) (by kernel_rfl) (by kernel_rfl) (fun _ _ _ h => h) (Or.inl ⟨by rfl, ?_⟩) (by assumption) ?_
      rotate_left 1
      · (intro w hSw; (try dsimp only at hSw); go_simp) <;> (with_reducible rfl)
      (try simp only [Act.put])
      refine wpAnyH_take (i := 8) (v := ?_) rfl (by kernel_rfl) (by kernel_rfl) (by kernel_rfl) (fun _ _ _ h => h) (Or.inl ⟨by rfl, ?_⟩) (by assumption) ?_
      rotate_left 1
      · (intro w hSw; (try dsimp only at hSw); go_simp) <;> (with_reducible rfl)
      (try simp only [Act.put])
      refine wpAnyH_take (i := 9) (v := ?_) rfl (by kernel_rfl) (by kernel_rfl) (by kernel_rfl) (fun _ _ _ h => h) (Or.inl ⟨by rfl, ?_⟩) (by assumption) ?_
      rotate_left 1
      · (intro w hSw; (try dsimp only at hSw); go_simp) <;> (with_reducible rfl)
      (try simp only [Act.put])
      refine wpAnyH_take (i := 10) (v := ?_) rfl (by kernel_rfl) (by kernel_rfl) (by kernel_rfl) (fun _ _ _ h => h) (Or.inl ⟨by rfl, ?_⟩) (by assumption) ?_
      rotate_left 1
      · (intro w hSw; (try dsimp only at hSw); go_simp) <;> (with_reducible rfl)
      (try simp only [Act.put])
      refine wpAnyH_take (i := 11) (v := ?_) rfl (by kernel_rfl) (by kernel_rfl) (by kernel_rfl) (fun _ _ _ h => h) (Or.inl ⟨by rfl, ?_⟩) (by assumption) ?_
      rotate_left 1
      · (intro w hSw; (try dsimp only at hSw); go_simp) <;> (with_reducible rfl)
      (try simp only [Act.put])
      refine wpAnyH_take (i := 12) (v := ?_) rfl (by kernel_rfl) (by kernel_rfl) (by kernel_rfl) (fun _ _ _ h => h) (Or.inl ⟨by rfl, ?_⟩) (by assumption) ?_
      rotate_left 1
      · (intro w hSw; (try dsimp only at hSw); go_simp) <;> (with_reducible rfl)
      (try simp only [Act.put])
      refine wpAnyH_take (i := 13) (v := ?_) rfl (by kernel_rfl) (by kernel_rfl) (by kernel_rfl) (fun _ _ _ h => h) (Or.inl ⟨by rfl, ?_⟩) (by assumption) ?_
      rotate_left 1
      · (intro w hSw; (try dsimp only at hSw); go_simp) <;> (with_reducible rfl)
      (try simp only [Act.put])
      refine wpAnyH_take (i := 14) (v := ?_) rfl (by kernel_rfl) (by kernel_rfl) (by kernel_rfl) (fun _ _ _ h => h) (Or.inl ⟨by rfl, ?_⟩) (by assumption) ?_
      rotate_left 1
      · (intro w hSw; (try dsimp only at hSw); go_simp) <;> (with_reducible rfl)
      (try simp only [Act.put])
      refine wpAnyH_take (i := 15) (v := ?_) rfl (by kernel_rfl) (by kernel_rfl) (by kernel_rfl) (fun _ _ _ h => h) (Or.inl ⟨by rfl, ?_⟩) (by assumption) ?_
      rotate_left 1
      · (intro w hSw; (try dsimp only at hSw); go_simp) <;> (with_reducible rfl)
      (try simp only [Act.put])
      refine wpAnyH_take (i := 16) (v := ?_) rfl (by kernel_rfl) (by kernel_rfl) (by kernel_rfl) (fun _ _ _ h => h) (Or.inl ⟨by rfl, ?_⟩) (by assumption) ?_
      rotate_left 1
      · (intro w hSw; (try dsimp only at hSw); go_simp) <;> (with_reducible rfl)
      (try simp only [Act.put])
      refine wpAnyH_take (i := 17) (v := ?_) rfl (by kernel_rfl) (by kernel_rfl) (by kernel_rfl) (fun _ _ _ h => h) (Or.inl ⟨by rfl, ?_⟩) (by assumption) ?_
      rotate_left 1
      · (intro w hSw; (try dsimp only at hSw); go_simp) <;> (with_reducible rfl)
      (try simp only [Act.put])
      refine wpAnyH_take (i := 18) (v := ?_) rfl (by kernel_rfl) (by kernel_rfl) (by kernel_rfl) (fun _ _ _ h => h) (Or.inl ⟨by rfl, ?_⟩) (by assumption) ?_
      rotate_left 1
      · (intro w hSw; (try dsimp only at hSw); go_simp) <;> (with_reducible rfl)
      (try simp only [Act.put])
      refine wpAnyH_take (i := 19) (v := ?_) rfl (by kernel_rfl) (by kernel_rfl) (by kernel_rfl) (fun _ _ _ h => h) (Or.inl ⟨by rfl, ?_⟩) (by assumption) ?_
      rotate_left 1
      · (intro w hSw; (try dsimp only at hSw); go_simp) <;> (with_reducible rfl)
      (try simp only [Act.put])
      refine wpAnyH_ready (rs := [20]) (by kernel_rfl) (by simp) ?_
      refine AllReadyH.cons rfl (fun K hK => ?_) AllReadyH.nil
      go_simp
      refine hK.out _ _ ?_ (fun hHeld => ?_)
      · exact HKA.out _
      clear hK K
      (try simp only [Act.put, List.setIfInBounds_toArray, List.set_cons_zero, List.set_cons_succ])
      refine wpAnyH_ready (rs := [21]) (by kernel_rfl) (by simp) ?_
      refine AllReadyH.cons rfl (fun K hK => ?_) AllReadyH.nil
      refine oper_append_one (enc := encSeg) (World.drew wr) w.heap.size _ _ 32 67 _ 24 rfl Try.underlying32 infoSeg rfl (by decide) encSeg_len encSeg_one (.slice oA i oc) (tameS H (l.take i)) ⟨s.lo, s.hi, s.host % (H : Int)⟩ _ (by rw [Int.tmod_eq_emod_of_nonneg hs0]; rfl) rfl _ rfl rfl HOD.out (by rw [HLN.out]; simp only [maxLen]; omega) (by rw [HLN.out]; omega) HB.out.size ?_
      intro v6 w6 hown6 hgr6
      have HOW := hid hown6
      have HGR := hid hgr6
      have hS6 := HKE.out w6 (HBD.out.grown hgr6 HBD.out.size (fun kk hk => own_ge HOD.out kk hk))
      clear hown6 hgr6
      refine hK.out _ _ ?_ (fun hHeld => ?_)
      · exact hS6
      clear hK K
      (try simp only [Act.put, List.setIfInBounds_toArray])
      refine wpAnyH_ready (rs := [22]) (by kernel_rfl) (by simp) ?_
      refine AllReadyH.cons rfl (fun K hK => ?_) AllReadyH.nil
      go_simp
      refine hK.out _ _ ?_ (fun hHeld => ?_)
      · exact hS6
      clear hK K
      (try simp only [Act.put, List.setIfInBounds_toArray, List.set_cons_zero, List.set_cons_succ])
      refine wpAnyH_done (by kernel_rfl) ?_ _
      refine NoPanic.normal ?_
      go_wp2_with fail
      go_roundg (l.length - (i + 1))
      case measure => omega
      case rel =>
        have hl6 : (tameS H (l.take i) ++ [(⟨s.lo, s.hi, s.host % (H : Int)⟩ : Seg)]).length = i + 1 := by rw [List.length_append, HLN.out]; rfl
        obtain ⟨_, A6, c6, rfl, _, _, _⟩ := owns_reads (l := tameS H (l.take i) ++ [(⟨s.lo, s.hi, s.host % (H : Int)⟩ : Seg)]) encSeg_len HOW.out (by decide)
        refine ⟨i + 1, A6, c6, by go_num, by rw [hl6], hlt, Nat.le_refl _, hid ?_, hid (HBD.out.grown HGR.out HBD.out.size (fun kk hk => ?_))⟩
        · have h := HOW.out
          rw [hl6] at h
          have h2 : (tameS H (l.take (i + 1))).length = i + 1 := by rw [HSN.out, hl6]
          show World.ownsRow _ _ _ _ _ _ _
          rw [h2, HSN.out]
          exact h
        · exact own_ge HOD.out kk hk
    · obtain rfl : i = l.length := by omega
      have hii : ¬ (l.length : Int) < (l.length : Int) := by omega
      have hOS : OwnSegs wr w.heap.size (.slice oA l.length oc) (tameS H l) := by have h := HO.out; rw [List.take_length] at h; exact h
      have HOS := hid hOS
      clear hOS
      go_wp2_with fail
      go_loopg [13, 14] ks.length (fun gx so si wq => ∃ (j m : Nat) (kA : Option Addr) (kc : Nat), si = .int .i64 j ∧ so = .slice kA m kc ∧ j ≤ ks.length ∧ ks.length - j ≤ gx ∧ m ≤ j ∧ Hid ((tameK (ks.take j)).length = m) ∧ Hid (OwnKeys wq w.heap.size (.slice kA m kc) (tameK (ks.take j))) ∧ Hid (∀ kk, kA.map Addr.block = some kk → oA.map Addr.block ≠ some kk) ∧ Hid (OwnSegs wq w.heap.size (.slice oA l.length oc) (tameS H l)) ∧ Hid (Below w.heap.size w wq))
      case atStart => exact ⟨0, 0, none, 0, rfl, rfl, Nat.zero_le _, Nat.le_refl _, Nat.le_refl _, hid rfl, hid (World.ownsRow_nil _ _ _ _), hid (fun kk h => by cases h), HOS, HB⟩
      case round =>
        obtain ⟨j, m, kA, kc, rfl, rfl, hjl, hgy, hmj, HM, HKO, HAP, HSO, HB2⟩ := hrel
        by_cases hlj : j < ks.length
        · have hjj : (j : Int) < (ks.length : Int) := by omega
          have hj0 : (0 : Int) ≤ (j : Int) := by omega
          have hwj : IntKind.i64.wrap ((j : Int) + 1) = (j : Int) + 1 := wrap_small _ (by omega) (by omega)
          obtain ⟨bk, ok, key, hk, rfl, hbk, ck⟩ := Keys.at1 HR'.out j hlj
          replace ck := Tfact HB2.out (a := ⟨bk, _, none⟩) hbk ck
          have HST := hid (tameK_step hk.out)
          obtain ⟨K, hK⟩ : ∃ K, K = tameK (ks.take j) := ⟨_, rfl⟩
          rw [← hK] at HM HKO HST
          clear hK
          have hKO : World.ownsRow wr w.heap.size 59 1 (.slice kA m kc) K.length (K.flatMap encKey) := HKO.out
          cases m with
          | zero =>
            have hK0 : K = [] := List.eq_nil_of_length_eq_zero HM.out
            have HST2 : Hid (tameK (ks.take (j + 1)) = K ++ [key]) := hid (by rw [HST.out, hK0]; rfl)
            have hm0 : (((0 : Nat) : Int) == 0) = true := rfl
            clear hK0
            go_wp2_with fail
            go_quiet (fail)
            have HKD : Hid (World.ownsRow (wr.drewN nq) w.heap.size 59 1 (.slice kA 0 kc) K.length (K.flatMap encKey)) := HKO
            have HSD : Hid (OwnSegs (wr.drewN nq) w.heap.size (.slice oA l.length oc) (tameS H l)) := HSO
            have HBD2 : Hid (Below w.heap.size w (wr.drewN nq)) := hid (below_drewT HB2.out nq)
            go_wp2_with (at_builtin; refine wpList_append_one (enc := encKey) (wr.drewN nq) w.heap.size rfl _ _ 33 59 _ 8 rfl Try.underlying33 infoU64 rfl (by decide) encKey_len encKey_one (.slice kA 0 kc) K key _ rfl rfl _ rfl (by simp) HKD.out (by rw [HM.out]; simp only [maxLen]; omega) (by rw [HM.out]; omega) HBD2.out.size ?_; intro v6 w6 hown6 hgr6 hat6; have HOW := hid hown6; have HGR := hid hgr6; have HAT := hid hat6; clear hown6 hgr6 hat6)
            go_roundg (ks.length - (j + 1))
            case measure => omega
            case rel =>
              have hl6 : (K ++ [key]).length = 0 + 1 := by rw [List.length_append, HM.out]; rfl
              obtain ⟨_, A6, c6, rfl, _, _, _⟩ := owns_reads (l := K ++ [key]) encKey_len HOW.out (by decide)
              have hat := HAT.out
              rw [SideAt.ownBlock_eq, SideAt.ownBlock_eq] at hat
              have hoS : ∀ g, oA.map Addr.block = some g → w6.heap[g]? = ((wr.drewN nq)).heap[g]? := fun g hg => HGR.out.block g (HSD.out.lt g (by rw [SideAt.ownBlock_eq]; exact hg)).2 (fun e => by rw [SideAt.ownBlock_eq] at e; exact HAP.out g e.symm hg)
              refine ⟨j + 1, 0 + 1, A6, c6, by go_num, by rw [hl6], hlj, Nat.le_refl _, by omega, hid (by rw [HST2.out, hl6]), hid ?_, hid (fun kk hk => ?_), hid (own_keep HSD.out (fun g hg => hoS g (by rw [SideAt.ownBlock_eq] at hg; exact hg))), hid (HBD2.out.grown HGR.out HBD2.out.size (fun kk hk => own_ge HKD.out kk hk))⟩
              · show World.ownsRow _ _ _ _ _ _ _
                rw [HST2.out, hl6]
                have h := HOW.out
                rw [hl6] at h
                exact h
              · rcases hat with e | ⟨b6, e, hb6⟩
                · exact HAP.out kk (e.symm.trans hk)
                · rw [hk] at e
                  injection e with e
                  intro e2
                  have := (HSD.out.lt kk (by rw [SideAt.ownBlock_eq]; exact e2)).2
                  omega
          | succ m =>
            obtain ⟨x, hx⟩ : ∃ x, K[m]? = some x := ⟨K[m]'(by rw [HM.out]; omega), List.getElem?_eq_getElem _⟩
            obtain ⟨g, rfl, hcx⟩ : ∃ g, kA = some ⟨g, 0, none⟩ ∧ wr.cell? ⟨g, m, none⟩ = some (.int .u64 x) := by
              rcases hKO.2 with ⟨_, e⟩ | ⟨g, cap, cur, e, _⟩
              · rw [HM.out] at e; omega
              · injection e with e1
                subst e1
                refine ⟨g, rfl, ?_⟩
                have h := hKO.cells (g := g) rfl m (.int .u64 x) (by
                  have := flatMap_get encKey_len K m x hx 0 _ rfl
                  simpa using this)
                simpa [addr_add] using h
            have hm0 : (((m : Int) + 1) == 0) = false := by rw [beq_eq_false_iff_ne]; omega
            have hwm : IntKind.i64.wrap (m : Int) = (m : Int) := by rw [IntWalk.i64_in _ ⟨by omega, by omega⟩]
            have hwm1 : IntKind.i64.wrap ((m : Int) + 1 - 1) = (m : Int) := by rw [IntWalk.i64_in _ ⟨by omega, by omega⟩]; omega
            have hmi : (m : Int) < (m : Int) + 1 := by omega
            have hlast : K.getLast?.all (· < key) = decide (x < key) := by
              rw [List.getLast?_eq_getElem?, HM.out, Nat.add_sub_cancel, hx]; rfl
            by_cases hc : x < key
            · have dx : decide (x < key) = true := by simpa using hc
              have HST2 : Hid (tameK (ks.take (j + 1)) = K ++ [key]) := hid (by rw [HST.out, hlast, dx]; rfl)
              clear hc hlast hKO hx
              go_wp2_with fail
              go_quiet (fail)
              have HKD : Hid (World.ownsRow (wr.drewN nq) w.heap.size 59 1 (.slice (some ⟨g, 0, none⟩) (m + 1) kc) K.length (K.flatMap encKey)) := HKO
              have HSD : Hid (OwnSegs (wr.drewN nq) w.heap.size (.slice oA l.length oc) (tameS H l)) := HSO
              have HBD2 : Hid (Below w.heap.size w (wr.drewN nq)) := hid (below_drewT HB2.out nq)
              go_wp2_with (at_builtin; refine wpList_append_one (enc := encKey) (wr.drewN nq) w.heap.size rfl _ _ 33 59 _ 8 rfl Try.underlying33 infoU64 rfl (by decide) encKey_len encKey_one (.slice (some ⟨g, 0, none⟩) (m + 1) kc) K key _ rfl rfl _ rfl (by simp) HKD.out (by rw [HM.out]; simp only [maxLen]; omega) (by rw [HM.out]; omega) HBD2.out.size ?_; intro v6 w6 hown6 hgr6 hat6; have HOW := hid hown6; have HGR := hid hgr6; have HAT := hid hat6; clear hown6 hgr6 hat6)
              go_roundg (ks.length - (j + 1))
              case measure => omega
              case rel =>
                have hl6 : (K ++ [key]).length = m + 1 + 1 := by rw [List.length_append, HM.out]; rfl
                obtain ⟨_, A6, c6, rfl, _, _, _⟩ := owns_reads (l := K ++ [key]) encKey_len HOW.out (by decide)
                have hat := HAT.out
                rw [SideAt.ownBlock_eq, SideAt.ownBlock_eq] at hat
                have hoS : ∀ g, oA.map Addr.block = some g → w6.heap[g]? = ((wr.drewN nq)).heap[g]? := fun g hg => HGR.out.block g (HSD.out.lt g (by rw [SideAt.ownBlock_eq]; exact hg)).2 (fun e => by rw [SideAt.ownBlock_eq] at e; exact HAP.out g e.symm hg)
                refine ⟨j + 1, m + 1 + 1, A6, c6, by go_num, by rw [hl6], hlj, Nat.le_refl _, by omega, hid (by rw [HST2.out, hl6]), hid ?_, hid (fun kk hk => ?_), hid (own_keep HSD.out (fun g hg => hoS g (by rw [SideAt.ownBlock_eq] at hg; exact hg))), hid (HBD2.out.grown HGR.out HBD2.out.size (fun kk hk => own_ge HKD.out kk hk))⟩
                · show World.ownsRow _ _ _ _ _ _ _
                  rw [HST2.out, hl6]
                  have h := HOW.out
                  rw [hl6] at h
                  exact h
                · rcases hat with e | ⟨b6, e, hb6⟩
                  · exact HAP.out kk (e.symm.trans hk)
                  · rw [hk] at e
                    injection e with e
                    intro e2
                    have := (HSD.out.lt kk (by rw [SideAt.ownBlock_eq]; exact e2)).2
                    omega
            · have dx : decide (x < key) = false := by simpa using hc
              have HST2 : Hid (tameK (ks.take (j + 1)) = K) := hid (by rw [HST.out, hlast, dx]; rfl)
              clear hc hlast hKO hx
              go_wp2_with fail
              go_quiet (fail)
              go_wp2_with fail
              go_roundg (ks.length - (j + 1))
              case measure => omega
              case rel => exact ⟨j + 1, m + 1, some ⟨g, 0, none⟩, kc, by go_num, rfl, hlj, Nat.le_refl _, by omega, hid (by rw [HST2.out]; exact HM.out), hid (by rw [HST2.out]; exact HKO.out), HAP, HSO, hid (below_drewT HB2.out nq)⟩
        · obtain rfl : j = ks.length := by omega
          have hjj : ¬ (ks.length : Int) < (ks.length : Int) := by omega
          go_wp2_with fail
          go_ret3
          refine ⟨_, _, true, rfl, fun _ => ⟨H, rfl, hH1, hH2, HFE.out, hl4, hk4, ?_, ?_⟩, HB2.out⟩
          · exact HSO.out
          · have h := HKO.out
            rw [List.take_length] at h
            exact h
end Go.Proofs.Ytpkcccphoolapaa
