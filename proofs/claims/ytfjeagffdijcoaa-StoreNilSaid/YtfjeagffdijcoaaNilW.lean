/- Layer 7: the walk of StoreNil. -/
import Derived.Test.YtfjeagffdijcoaaNilD
namespace Go.Proofs.Ytfjeagffdijcoaa
open Go.RowKit Go.Shelf TI

set_option maxRecDepth 100000 in
set_option maxHeartbeats 4000000 in
theorem storeNil_walk (w : World) (k v : Int) (_ : (Lit.int .i64 k).wf = true) (_ : (Lit.int .i64 v).wf = true) :
    Calls Try.prog 13 #[.int .i64 k, .int .i64 v] w fun e w' => e = .returned (.bool true) ∧ Below w.heap.size w w' := by
  go_enter Try.func13, Try.ntmps13
  go_wp2_with fail
  refine (newMap_nil w).mono ?_
  rintro e w1 ⟨rfl, rfl⟩
  go_wp2_with fail
  refine (newOrdered_any w1).mono ?_
  rintro e w2 ⟨rfl, hM, hb2⟩
  have HM := hid hM
  have HB2 := hid hb2
  have hMl := hM.lt
  clear hM hb2
  go_wp2_with fail
  refine (mapPut_any 76 #[] cmpI (fun _ => True) (fun _ => False) cmp_fn w2 w1.heap.size .nil k v HM.out (by simp [Tr.many]) trivial (fun _ _ => id) id).mono ?_
  rintro e w3 ⟨nb, g1, rfl, g2, g3, -⟩
  have HB3 := hid (HB2.out.trans (g3.toBelow' HB2.out.size (by
    rintro x (rfl | hx)
    · exact Nat.le_refl _
    · cases hx)))
  have hget : Tr.get cmpI k (Tr.put cmpI k v nb .nil) = some v := by simp [Tr.put, Tr.get, cmpI]
  have HMG := hid (mapGet_any 76 #[] cmpI (fun _ => True) (fun _ => False) cmp_fn w3 w1.heap.size _ k g2 trivial)
  rw [hget] at HMG
  clear g1 g2 g3 hget HM HB2
  go_wp2_with fail
  refine HMG.out.mono ?_
  rintro e w4 ⟨rfl, q, rfl⟩
  have HB4 := hid (below_drewN' HB3.out q)
  generalize w3.drewN q = w4 at *
  clear HB3 HMG
  go_wp2_with fail
  refine (putNil_any w4 k v).mono ?_
  rintro e w5 ⟨rfl, hb⟩
  have HB5 := hid (HB4.out.trans (hb.mono HB4.out.size))
  clear HB4 hb
  go_wp2_with (go_at_call 63; refine (getNil_any _ _).mono ?_; rintro e w' ⟨rfl, hw'⟩; obtain rfl : w5 = w' := hw'.symm)
  refine (deleteNil_any w5 k).mono ?_
  rintro e w6 ⟨rfl, hb⟩
  have HB6 := hid (HB5.out.trans (hb.mono HB5.out.size))
  clear HB5 hb
  go_wp2_with (first
    | (go_at_call 33; refine (atNil_any _ _).mono ?_; rintro e w' ⟨rfl, hw'⟩; obtain rfl : w6 = w' := hw'.symm)
    | (go_at_call 64; refine (floorNil_any _ _).mono ?_; rintro e w' ⟨rfl, hw'⟩; obtain rfl : w6 = w' := hw'.symm)
    | (go_at_call 65; refine (ceilNil_any _ _).mono ?_; rintro e w' ⟨rfl, hw'⟩; obtain rfl : w6 = w' := hw'.symm))
  refine (collectNil_any w6).mono ?_
  rintro e w7 ⟨rfl, hb⟩
  have HB7 := hid (HB6.out.trans (hb.mono HB6.out.size))
  clear HB6 hb
  go_wp2_with (first
    | (go_at_call 58; refine (cloneNil_any _).mono ?_; rintro e w' ⟨rfl, hw'⟩; obtain rfl : w7 = w' := hw'.symm)
    | (go_at_call 22; refine (lenNil_any _).mono ?_; rintro e w' ⟨rfl, hw'⟩; obtain rfl : w7 = w' := hw'.symm)
    | (go_at_call 32; refine (heightNil_any _).mono ?_; rintro e w' ⟨rfl, hw'⟩; obtain rfl : w7 = w' := hw'.symm)
    | (go_at_call 66; refine (rankNil_any _ _).mono ?_; rintro e w' ⟨rfl, hw'⟩; obtain rfl : w7 = w' := hw'.symm))
  refine bodyPost_ret (results_tmp rfl _ _ _) rfl ?_
  exact ⟨rfl, HB7.out⟩
end Go.Proofs.Ytfjeagffdijcoaa
