/- Numbers of four bytes read; a sum held against its four bytes; a copy of bytes. -/
import Derived.Test.YtfcgmlofiaehkaaDoorJU
import Derived.Lib.SlBytesRow
import Derived.Laws.IdiomStrings
import Derived.Lib.BufferRead
namespace Go.Proofs.YtfcgmlofiaehkaaDoor
open Go.RowKit

theorem wraps_u32 (n : Int) (h0 : 0 ≤ n) (h1 : n < 2 ^ 32) : IntKind.u32.wrap n = n := by rw [IntKind.wrap_u32]; omega
theorem or4 {a b c d : Int} (ha : isB a) (hb : isB b) (hc : isB c) (hd : isB d) :
    bits .or .u32 (bits .or .u32 (bits .or .u32 (a * 16777216) (b * 65536)) (c * 256)) d = a * 16777216 + b * 65536 + c * 256 + d := by
  obtain ⟨a0, a1⟩ := ha
  obtain ⟨b0, b1⟩ := hb
  obtain ⟨c0, c1⟩ := hc
  obtain ⟨d0, d1⟩ := hd
  rw [bits_join .u32 32 (by decide) wraps_u32 24 (a * 16777216) (b * 65536) (by omega) (by omega) (by omega) (by omega) (by omega) (by omega)]
  rw [bits_join .u32 32 (by decide) wraps_u32 16 (a * 16777216 + b * 65536) (c * 256) (by omega) (by omega) (by omega) (by omega) (by omega) (by omega)]
  rw [bits_join .u32 32 (by decide) wraps_u32 8 (a * 16777216 + b * 65536 + c * 256) d (by omega) (by omega) (by omega) (by omega) (by omega) (by omega)]

set_option maxHeartbeats 1000000 in
theorem get32_any (w : World) (A : Option Addr) (n c : Nat) (l : List Int) (hl : l.length = n) (hm : n ≤ 1000000000) (h4 : 4 ≤ n) (hb : ∀ x ∈ l, isB x) (hR : U8s w.heap.size w A l) :
    Calls Tryd.prog 80 #[.slice A n c] w fun e w' => e = .returned (.int .u32 (get4 l)) ∧ ∃ q, w' = w.drewN q := by
  subst hl
  obtain ⟨b, off, x0, e0, rfl, hbk, c0⟩ := hR.at' 0 (by omega)
  obtain ⟨_, _, x1, e1, he, _, c1⟩ := hR.at' 1 (by omega)
  cases he
  obtain ⟨_, _, x2, e2, he, _, c2⟩ := hR.at' 2 (by omega)
  cases he
  obtain ⟨_, _, x3, e3, he, _, c3⟩ := hR.at' 3 (by omega)
  cases he
  have b0 := hb x0 (List.mem_of_getElem? e0.out)
  have b1 := hb x1 (List.mem_of_getElem? e1.out)
  have b2 := hb x2 (List.mem_of_getElem? e2.out)
  have b3 := hb x3 (List.mem_of_getElem? e3.out)
  have HG : Hid (get4 l = bits .or .u32 (bits .or .u32 (bits .or .u32 (x0 * 16777216) (x1 * 65536)) (x2 * 256)) x3) := hid (by
    rw [or4 b0 b1 b2 b3]; unfold get4; rw [e0.out, e1.out, e2.out, e3.out]; rfl)
  obtain ⟨p0, q0⟩ := b0
  obtain ⟨p1, q1⟩ := b1
  obtain ⟨p2, q2⟩ := b2
  obtain ⟨p3, q3⟩ := b3
  rw [HG.out]
  rw [Nat.add_zero] at c0
  have s0 : IntKind.u32.wrap (x0 * 16777216) = x0 * 16777216 := wraps_u32 _ (by omega) (by omega)
  have s1 : IntKind.u32.wrap (x1 * 65536) = x1 * 65536 := wraps_u32 _ (by omega) (by omega)
  have s2 : IntKind.u32.wrap (x2 * 256) = x2 * 256 := wraps_u32 _ (by omega) (by omega)
  have s3 : IntKind.u32.wrap x3 = x3 := wraps_u32 _ (by omega) (by omega)
  have r0 : IntKind.u32.wrap x0 = x0 := wraps_u32 _ (by omega) (by omega)
  have r1 : IntKind.u32.wrap x1 = x1 := wraps_u32 _ (by omega) (by omega)
  have r2 : IntKind.u32.wrap x2 = x2 := wraps_u32 _ (by omega) (by omega)
  have hl0 : (0 : Int) < (l.length : Int) := by omega
  have hl1 : (1 : Int) < (l.length : Int) := by omega
  have hl2 : (2 : Int) < (l.length : Int) := by omega
  have hl3 : (3 : Int) < (l.length : Int) := by omega
  clear hR hb
  go_enter Tryd.func80, Tryd.ntmps80
  go_wp2_with fail
  go_quiet (fail)
  go_wp2_with fail
  refine bodyPost_ret (results_tmp rfl _ _ _) rfl ?_
  exact ⟨rfl, _, rfl⟩

/-- the same memory, some draws later -/
def Drawn (w W : World) : Prop := ∃ q, W = w.drewN q
theorem Drawn.refl (w : World) : Drawn w w := ⟨0, rfl⟩
theorem Drawn.drew {w W : World} (h : Drawn w W) : Drawn w W.drew := h.elim fun q e => ⟨q + 1, by rw [e]; rfl⟩
theorem Drawn.drewN {w W : World} (h : Drawn w W) (k : Nat) : Drawn w (W.drewN k) := h.elim fun q e => ⟨q + k, by rw [e]; exact World.drewN_drewN ..⟩
theorem Drawn.trans {w W V : World} (h : Drawn w W) (h2 : Drawn W V) : Drawn w V := h2.elim fun _ e => e ▸ h.drewN _
theorem Drawn.heap {w W : World} (h : Drawn w W) : W.heap = w.heap := h.elim fun _ e => by rw [e]; rfl
theorem Drawn.below {w W : World} (h : Drawn w W) (B : Nat) : Below B w W := h.elim fun q e => by rw [e]; exact below_drewN' (Below.refl _ _) q
theorem Drawn.reads {α : Type} {B : Nat} {w W : World} {enc : α → List Value} {sz : Nat} {A : Option Addr} {l : List α} (h : Drawn w W) (hR : Reads B w enc sz A l) : Reads B W enc sz A l := hR.below (h.below B)
theorem get32_at (w : World) (A : Option Addr) (n c : Nat) (l : List Int) (hl : l.length = n) (hm : n ≤ 1000000000) (h4 : 4 ≤ n) (hb : ∀ x ∈ l, isB x) (hR : U8s w.heap.size w A l) :
    ∀ W, Drawn w W → Calls Tryd.prog 80 #[.slice A n c] W fun e w' => e = .returned (.int .u32 (get4 l)) ∧ Drawn w w' := fun W hW =>
  (get32_any W A n c l hl hm h4 hb (by rw [hW.heap]; exact hW.reads hR)).mono fun _ _ h => ⟨h.1, hW.trans h.2⟩
/-- a part of a slice of bytes that reads -/
theorem cutB_run (A : Option Addr) (n c i m : Nat) (ki km : Int) (hki : ki = i) (hkm : km = m) (him : i ≤ m) (hm : m ≤ n) (hnc : n ≤ c) :
    ∃ A' : Option Addr, (∀ W : World, (Instr.slice 22 (.slice A n c) (some (.int .i64 ki)) (some (.int .i64 km)) none).run Tryd.prog W = .ok (.slice A' (m - i) (c - i)) W) ∧
      ∀ (B : Nat) (w : World) (l : List Int), l.length = n → U8s B w A l → U8s B w A' ((l.take m).drop i) := by
  subst hki hkm
  obtain ⟨i0, hi, hzz⟩ := Option.map_eq_some_iff.1 infoU8
  simp only [Prod.mk.injEq] at hzz
  obtain ⟨hz0, hz1, hz2⟩ := hzz
  refine ⟨if c = i then A else A.map (·.add (i * 1)), fun W => ?_, fun B w l hl h => ?_⟩
  · have hel : Tryd.prog.elem 22 = 5 := by simp [Program.elem, Tryd.underlying22]
    have hu : Tryd.prog.underlying 22 = some (.slice (Tryd.prog.elem 22)) := by rw [hel]; exact Tryd.underlying22
    rw [run_slice_lh W 22 A n c hu .i64 .i64 (i : Int) (m : Int) (Int.natCast_nonneg _) (by omega) (by omega), hel]
    simp [sizeOf, typeInfo, hi, hz1, sliced, Result.andThen]
  · split
    · have : (l.take m).drop i = [] := List.eq_nil_of_length_eq_zero (by rw [List.length_drop, List.length_take]; omega)
      rw [this]; exact .inl rfl
    · have h' := h.take m
      rcases h' with h0 | ⟨b, off, rfl, h2, h3⟩
      · rw [h0]; exact .inl (by simp)
      · have := Reads.drop (.inr ⟨b, off, rfl, h2, h3⟩ : Reads B w u8s 1 (some ⟨b, off, none⟩) (l.take m)) i
        simpa [addr_add] using this
theorem headB_run (A : Option Addr) (n c m : Nat) (km : Int) (hkm : km = m) (hm : m ≤ n) (hnc : n ≤ c) :
    ∃ A' : Option Addr, (∀ W : World, (Instr.slice 22 (.slice A n c) none (some (.int .i64 km)) none).run Tryd.prog W = .ok (.slice A' m c) W) ∧
      (∀ (B : Nat) (w : World) (l : List Int), l.length = n → U8s B w A l → U8s B w A' (l.take m)) ∧ (A' = none → A = none) := by
  subst hkm
  obtain ⟨i0, hi, hzz⟩ := Option.map_eq_some_iff.1 infoU8
  simp only [Prod.mk.injEq] at hzz
  obtain ⟨hz0, hz1, hz2⟩ := hzz
  refine ⟨if c = 0 then A else A.map (·.add (0 * 1)), fun W => ?_, fun B w l hl h => ?_, ?_⟩
  · have hel : Tryd.prog.elem 22 = 5 := by simp [Program.elem, Tryd.underlying22]
    have hu : Tryd.prog.underlying 22 = some (.slice (Tryd.prog.elem 22)) := by rw [hel]; exact Tryd.underlying22
    rw [run_slice_h W 22 A n c hu .i64 (m : Int) (Int.natCast_nonneg _) (by omega), hel]
    simp [sizeOf, typeInfo, hi, hz1, sliced, Result.andThen]
  · split
    · exact h.take m
    · rcases h.take m with h0 | ⟨b, off, rfl, h2, h3⟩
      · rw [h0]; exact .inl rfl
      · refine .inr ⟨b, off, by simp [addr_add], h2, h3⟩
  · split
    · exact id
    · intro h; simpa using h

def toStr (bs : List Int) : ByteArray := ⟨(bs.map fun x => UInt8.ofNat x.toNat).toArray⟩
theorem toStr_append (a b : List Int) : toStr a ++ toStr b = toStr (a ++ b) := by
  apply ByteArray.ext
  simp [toStr]
theorem toStr_size (bs : List Int) : (toStr bs).size = bs.length := by simp [toStr, ByteArray.size]
theorem toStr_inj {a b : List Int} (ha : ∀ x ∈ a, 0 ≤ x ∧ x ≤ 255) (hb : ∀ x ∈ b, 0 ≤ x ∧ x ≤ 255) (h : toStr a = toStr b) : a = b := by
  have h1 : (a.map fun x => UInt8.ofNat x.toNat) = (b.map fun x => UInt8.ofNat x.toNat) := by
    have := congrArg (fun s : ByteArray => s.data.toList) h
    simpa [toStr] using this
  clear h
  induction a generalizing b with
  | nil => cases b with
    | nil => rfl
    | cons => cases h1
  | cons x a ih =>
    cases b with
    | nil => cases h1
    | cons y b =>
      simp only [List.map_cons, List.cons.injEq] at h1
      obtain ⟨e1, e2⟩ := h1
      have hx := ha x (by simp)
      have hy := hb y (by simp)
      have : x = y := by
        have e3 := congrArg UInt8.toNat e1
        simp only [UInt8.toNat_ofNat'] at e3
        omega
      rw [this, ih (fun z hz => ha z (by simp [hz])) (fun z hz => hb z (by simp [hz])) e2]

theorem conv_bytes (w : World) (A : Option Addr) (c : Nat) (bs : List Int) (hA : A = none → bs.length = 0 ∧ c = 0) (hR : U8s w.heap.size w A bs) (hb : ∀ x ∈ bs, 0 ≤ x ∧ x ≤ 255) :
    (convert 22 9 (.slice A bs.length c)).run Tryd.prog w = .ok (.string (toStr bs)) w := by
  cases A with
  | none =>
    obtain ⟨h1, h2⟩ := hA rfl
    obtain rfl : bs = [] := List.eq_nil_of_length_eq_zero h1
    subst h2
    have := Go.Lib.run_convert_nil_bytes (P := Tryd.prog) w 22 9 5 0 Tryd.underlying22 Tryd.underlying5 Tryd.underlying9
    exact this
  | some a =>
    have h := run_convert_bytes_back (P := Tryd.prog) w 22 9 5 a c (bs.map fun x => UInt8.ofNat x.toNat) Tryd.underlying22 Tryd.underlying5 Tryd.underlying9 (fun j hj => by
      have hj' : j < bs.length := by simpa using hj
      obtain ⟨b, off, x, hx, e, _, hc⟩ := hR.at' j hj'
      cases e
      rw [addr_add, hc]
      have hx' : bs[j] = x := (List.getElem?_eq_some_iff.1 hx.out).2
      have := hb x (List.mem_of_getElem? hx.out)
      simp only [List.getElem_map, hx', UInt8.toNat_ofNat']
      congr 2
      omega)
    rw [List.length_map] at h
    exact h

theorem sealed_any (w : World) (A : Option Addr) (n c : Nat) (l : List Int) (at' : Nat) (k : Int) (hk : k = at') (sum : Int) (hl : l.length = n) (hnc : n ≤ c) (hm : n ≤ 1000000000) (h4 : at' + 4 ≤ n) (hb : ∀ x ∈ l, isB x) (hR : U8s w.heap.size w A l) :
    Calls Tryd.prog 79 #[.slice A n c, .int .i64 k, .int .u32 sum] w fun e w' => e = .returned (.bool (get4 (l.drop at') == sum)) ∧ ∃ q, w' = w.drewN q := by
  subst hl
  obtain ⟨A', hrun, hrd⟩ := drop_run (P := Tryd.prog) (enc := u8s) 22 5 _ 1 1 Tryd.underlying22 infoU8 A l.length c at' k hk (by omega) hnc
  have hg := get32_any w A' (l.length - at') (c - at') (l.drop at') (by simp) (by omega) (by omega) (fun x hx => hb x (List.mem_of_mem_drop hx)) (hrd _ _ _ rfl hR)
  have HG := hid hg
  clear hR hb hrd hg hk
  go_enter Tryd.func79, Tryd.ntmps79
  go_wp2_with fail
  refine HG.out.mono ?_
  rintro e w1 ⟨rfl, q, rfl⟩
  go_wp2_with fail
  refine bodyPost_ret (results_tmp rfl _ _ _) rfl ?_
  exact ⟨rfl, _, rfl⟩
theorem sealed_at (w : World) (A : Option Addr) (n c : Nat) (l : List Int) (at' : Nat) (k : Int) (hk : k = at') (sum : Int) (hl : l.length = n) (hnc : n ≤ c) (hm : n ≤ 1000000000) (h4 : at' + 4 ≤ n) (hb : ∀ x ∈ l, isB x) (hR : U8s w.heap.size w A l) :
    ∀ W, Drawn w W → Calls Tryd.prog 79 #[.slice A n c, .int .i64 k, .int .u32 sum] W fun e w' => e = .returned (.bool (get4 (l.drop at') == sum)) ∧ Drawn w w' := fun W hW =>
  (sealed_any W A n c l at' k hk sum hl hnc hm h4 hb (by rw [hW.heap]; exact hW.reads hR)).mono fun _ _ h => ⟨h.1, hW.trans h.2⟩
theorem crc_at (w : World) (A : Option Addr) (n c : Nat) (l : List Int) (hl : l.length = n) (hm : n ≤ 4611686018427387904) (hb : ∀ x ∈ l, isB x) (hR : U8s w.heap.size w A l) :
    ∀ W, Drawn w W → Calls Tryd.prog 78 #[.slice A n c] W fun e w' => e = .returned (.int .u32 (crcM 0 l)) ∧ Drawn w w' := fun W hW =>
  (crc_any W A n c l hl hm hb (by rw [hW.heap]; exact hW.reads hR)).mono fun _ _ h => ⟨h.1, h.2 ▸ hW⟩
theorem crcMore_at (w : World) (c0 : Int) (A : Option Addr) (n c : Nat) (l : List Int) (hl : l.length = n) (hm : n ≤ 4611686018427387904) (hc0 : isW c0) (hb : ∀ x ∈ l, isB x) (hR : U8s w.heap.size w A l) :
    ∀ W, Drawn w W → Calls Tryd.prog 64 #[.int .u32 c0, .slice A n c] W fun e w' => e = .returned (.int .u32 (crcM c0 l)) ∧ Drawn w w' := fun W hW =>
  (crcMore_any W c0 A n c l hl hm hc0 hb (by rw [hW.heap]; exact hW.reads hR)).mono fun _ _ h => ⟨h.1, h.2 ▸ hW⟩
theorem copied_any (w : World) (A : Option Addr) (n c : Nat) (l : List Int) (hl : l.length = n) (hm : n ≤ 1000000000) (hR : U8s w.heap.size w A l) :
    Calls Tryd.prog 54 #[.slice A n c] w fun e w' => ∃ v, e = .returned v ∧ w'.ownsRow w.heap.size 5 1 v n (l.flatMap u8s) ∧ Below w.heap.size w w' := by
  have HR := hid hR
  clear hR
  go_enter Tryd.func54, Tryd.ntmps54
  go_wp2_with (at_builtin; go_loud (refine wpList_append_reads (B := w.heap.size) _ w.heap.size rfl _ _ 22 5 _ 1 rfl Tryd.underlying22 infoU8 rfl (by decide) (.slice none 0 0) 0 [] rfl (World.ownsRow_nil _ _ _ _) A n c l rfl hl HR.out u8s_len u8s_one (by simp only [maxLen]; omega) (by omega) (Nat.le_refl _) ?_); intro v1 w2 hown hg hat)
  refine bodyPost_ret (results_tmp rfl _ _ _) rfl ?_
  exact ⟨v1, rfl, by simpa using hown, (Below.refl _ _).grown hg (Nat.le_refl _) (fun k hk => by cases hk)⟩
end Go.Proofs.YtfcgmlofiaehkaaDoor
