/- Layer 9: a journal at work: Snapshot, Sync, Disk, Crash, Stat, Open, Fresh. -/
import Derived.Test.YtfcgmlofiaehkaaDoorKA
namespace Go.Proofs.YtfcgmlofiaehkaaDoor
open Go.RowKit

/-! ### Snapshot -/
def snapErr (p : PS) (limit : Int) (st : List Int) : Int := if 4194304 < st.length then 90 else if p.gen = 18446744073709551615 then 95 else if limit < 24 + (st.length : Int) then 91 else 0
def PS.snap (p : PS) (st : List Int) : PS := ⟨p.gen + 1, st, [], 0, 0, some (p.st, p.rs)⟩
theorem PS.Ok.snap {p : PS} {limit : Int} (h : p.Ok limit) {st : List Int} (hs : ∀ x ∈ st, isB x) (hn : st.length ≤ 4194304) (hg : p.gen < 18446744073709551615) (hf : 24 + (st.length : Int) ≤ limit) : (p.snap st).Ok limit := by
  have h1 := h.gen1
  refine ⟨by show 1 ≤ p.gen + 1; omega, by show p.gen + 1 ≤ _; omega, hs, hn, fun x hx => by simp [PS.snap] at hx, ?_, ?_, Nat.zero_le _, fun h2 => by simp [PS.snap] at h2⟩
  · show ((24 + st.length + logLen [] : Nat) : Int) ≤ limit; simp only [logLen]; omega
  · intro x hx
    simp only [PS.snap, Option.some.injEq] at hx
    subst hx
    exact ⟨h.st1, h.st2, h.rs1, h.lim, by show 2 ≤ p.gen + 1; omega⟩
theorem PS.snap_cur (p : PS) (st : List Int) : (p.snap st).cur = begunB (p.gen + 1) st := by simp [PS.cur, PS.snap, slotB, logB]
theorem PS.snap_old (p : PS) (st : List Int) : (p.snap st).old = p.cur := by
  show slotB (p.gen + 1 - 1) p.st p.rs = slotB p.gen p.st p.rs
  rw [Int.add_sub_cancel]
theorem noBox {w : World} {j lo : Nat} {cs : Array Value} {v : Value} {l : List Int} (hb : w.heap[j]? = some (.cells cs 120 (0, 0))) (ho : OwnB w lo v l) : v.ownBlock ≠ some j := fun h => by
  obtain ⟨_, cs', hc⟩ := ho.cells h
  rw [hb] at hc
  injection hc with hc
  injection hc with _ hc
  exact absurd hc (by decide)
theorem jn_snap {w : World} {V : Value} {p : PS} {limit : Int} {P : Nat → Prop} (h : Jn w V p limit P) (A : Option Addr) (n c : Nat) (st : List Int) (hl : st.length = n) (hb : ∀ x ∈ st, isB x) (hR : U8s w.heap.size w A st) (hA : st ≠ [] → ∀ q, A = some q → ¬ P q.block) :
    Calls Tryd.prog 41 #[V, .slice A n c] w fun e w' => e = .returned (.int .i64 (snapErr p limit st)) ∧ Did w w' V (if snapErr p limit st = 0 then p.snap st else p) limit P := by
  obtain ⟨hl0, hl1⟩ := goodLim_le h.lim
  obtain ⟨j, s0, s1, rfl, hJ, hP⟩ := h.at'
  subst hl
  have hg2 := h.ok.gen2
  have hg1 := h.ok.gen1
  by_cases h1 : 4194304 < st.length
  · have e : snapErr p limit st = 90 := by unfold snapErr; rw [if_pos h1]
    rw [e, if_neg (by decide)]
    refine (snap_long w 0 _ j _ _ _ hJ A _ c h1).mono ?_
    rintro e w' ⟨rfl, rfl⟩
    exact ⟨rfl, Did.same h (Below.refl _ _)⟩
  by_cases h2 : p.gen = 18446744073709551615
  · have e : snapErr p limit st = 95 := by unfold snapErr; rw [if_neg h1, if_pos h2]
    rw [e, if_neg (by decide)]
    refine (snap_gen w 0 _ j _ _ _ hJ A _ c (by omega) h2).mono ?_
    rintro e w' ⟨rfl, rfl⟩
    exact ⟨rfl, Did.same h (Below.refl _ _)⟩
  have h2' : p.gen < 18446744073709551615 := by omega
  by_cases h3 : limit < 24 + (st.length : Int)
  · have e : snapErr p limit st = 91 := by unfold snapErr; rw [if_neg h1, if_neg h2, if_pos h3]
    rw [e, if_neg (by decide)]
    refine (snap_full w 0 _ j _ _ _ hJ A _ c (by omega) h2' h3).mono ?_
    rintro e w' ⟨rfl, rfl⟩
    exact ⟨rfl, Did.same h (Below.refl _ _)⟩
  have e : snapErr p limit st = 0 := by unfold snapErr; rw [if_neg h1, if_neg h2, if_neg h3]
  rw [e, if_pos rfl]
  have hok : (p.snap st).Ok limit := h.ok.snap hb (by omega) h2' (by omega)
  have hA' : st ≠ [] → ∀ q, A = some q → q.block ≠ j := fun hne q hq e => hA hne q hq ((hP _).2 (.inl e))
  rcases slot01 p.gen with hs | hs
  · have hs2 : slotOf (p.gen + 1) = 1 := by rw [slotOf_succ, hs]
    have ej : { p.jl limit with use := 1, l1 := begunB ((p.jl limit).gen + 1) st, synced := 0, gen := (p.jl limit).gen + 1, sum := begunSum ((p.jl limit).gen + 1) st, recs := 0, waiting := 0 } = (p.snap st).jl limit := by
      refine jl_ext rfl hs2.symm ?_ ?_ rfl rfl rfl rfl rfl
      · show (if slotOf p.gen = 0 then p.cur else _) = (if slotOf (p.gen + 1) = 0 then _ else (p.snap st).old); rw [if_pos hs, if_neg (by omega), PS.snap_old]
      · show begunB (p.gen + 1) st = (if slotOf (p.gen + 1) = 0 then _ else (p.snap st).cur); rw [if_neg (by omega), PS.snap_cur]
    refine (snap_0 w 0 _ j _ _ _ hJ hs A _ c st rfl (by omega) hb hR hA' hl1 (by show 24 + (st.length : Int) ≤ limit; omega) (by show 0 ≤ p.gen; omega) h2').mono ?_
    rintro e w' ⟨A', n', c', rfl, hn', hbx, ho, ht⟩
    have hlt := fun k hk => ho.lt k hk
    refine ⟨rfl, fun k => k = j ∨ s0.v.ownBlock = some k ∨ (SV.v (A', n', c')).ownBlock = some k, ⟨⟨j, s0, (A', n', c'), rfl, ⟨?_, Nat.zero_le _, Nat.lt_of_lt_of_le hJ.jhi ht.size, ht.own ?_ ?_, ?_, fun k hk => Nat.lt_of_lt_of_le (hJ.hi0 k hk) ht.size, fun k hk => (hlt k hk).2, ?_⟩, fun k => Iff.rfl⟩, hok, h.lim, Nat.zero_le _⟩, ?_, ?_⟩
    · rw [← ej]; exact hbx
    · rw [← ej]; exact hJ.own0
    · rintro k hk rfl; exact noBox hJ.box hJ.own0 hk
    · rw [← ej]; exact own_mono ho (Nat.zero_le _)
    · intro k hk h3
      have h4 := hJ.hi0 k hk
      have h5 := (hlt k h3).1
      omega
    · exact ht.mono fun k hk => (hP k).2 (.inl hk)
    · rintro k (rfl | hk | hk)
      · exact .inl ((hP _).2 (.inl rfl))
      · exact .inl ((hP _).2 (.inr (.inl hk)))
      · exact .inr (hlt k hk).1
  · have hs2 : slotOf (p.gen + 1) = 0 := by rw [slotOf_succ, hs]
    have ej : { p.jl limit with use := 0, l0 := begunB ((p.jl limit).gen + 1) st, synced := 0, gen := (p.jl limit).gen + 1, sum := begunSum ((p.jl limit).gen + 1) st, recs := 0, waiting := 0 } = (p.snap st).jl limit := by
      refine jl_ext rfl hs2.symm ?_ ?_ rfl rfl rfl rfl rfl
      · show begunB (p.gen + 1) st = (if slotOf (p.gen + 1) = 0 then (p.snap st).cur else _); rw [if_pos hs2, PS.snap_cur]
      · show (if slotOf p.gen = 0 then _ else p.cur) = (if slotOf (p.gen + 1) = 0 then (p.snap st).old else _); rw [if_neg (by omega), if_pos hs2, PS.snap_old]
    refine (snap_1 w 0 _ j _ _ _ hJ hs A _ c st rfl (by omega) hb hR hA' hl1 (by show 24 + (st.length : Int) ≤ limit; omega) (by show 0 ≤ p.gen; omega) h2').mono ?_
    rintro e w' ⟨A', n', c', rfl, hn', hbx, ho, ht⟩
    have hlt := fun k hk => ho.lt k hk
    refine ⟨rfl, fun k => k = j ∨ (SV.v (A', n', c')).ownBlock = some k ∨ s1.v.ownBlock = some k, ⟨⟨j, (A', n', c'), s1, rfl, ⟨?_, Nat.zero_le _, Nat.lt_of_lt_of_le hJ.jhi ht.size, ?_, ht.own ?_ ?_, fun k hk => (hlt k hk).2, fun k hk => Nat.lt_of_lt_of_le (hJ.hi1 k hk) ht.size, ?_⟩, fun k => Iff.rfl⟩, hok, h.lim, Nat.zero_le _⟩, ?_, ?_⟩
    · rw [← ej]; exact hbx
    · rw [← ej]; exact own_mono ho (Nat.zero_le _)
    · rw [← ej]; exact hJ.own1
    · rintro k hk rfl; exact noBox hJ.box hJ.own1 hk
    · intro k hk h3
      have h4 := hJ.hi1 k h3
      have h5 := (hlt k hk).1
      omega
    · exact ht.mono fun k hk => (hP k).2 (.inl hk)
    · rintro k (rfl | hk | hk)
      · exact .inl ((hP _).2 (.inl rfl))
      · exact .inr (hlt k hk).1
      · exact .inl ((hP _).2 (.inr (.inr hk)))
/-! ### Sync -/
def PS.sync (p : PS) : PS := { p with sy := p.len, wa := 0 }
theorem PS.Ok.sync {p : PS} {limit : Int} (h : p.Ok limit) : p.sync.Ok limit := ⟨h.gen1, h.gen2, h.st1, h.st2, h.rs1, h.lim, h.old, Nat.le_refl _, fun _ => by show 24 + p.st.length ≤ p.len; unfold PS.len; omega⟩
theorem oneTch {g : Nat} {W W' : World} (h : OneSet g W W') : Tch (fun k => k = g) W W' := ⟨h.os, h.tape, h.output, Nat.le_of_eq h.size.symm, fun k _ hn => h.block k hn⟩
theorem jn_sync {w : World} {V : Value} {p : PS} {limit : Int} {P : Nat → Prop} (h : Jn w V p limit P) :
    Calls Tryd.prog 37 #[V] w fun e w' => e = .returned (.tuple #[.int .i64 p.wa, .int .i64 0]) ∧ Did w w' V p.sync limit P := by
  obtain ⟨j, s0, s1, rfl, hJ, hP⟩ := h.at'
  have hc := p.cur_len
  have fin : ∀ w', OneSet j w w' → w'.heap[j]? = some (.cells (jCells (p.sync.jl limit) s0 s1) 120 (0, 0)) → Did w w' (.pointer (some ⟨j, 0, none⟩)) p.sync limit P := fun w' ho hb => by
    have ht := oneTch ho
    have hz := ho.size
    refine ⟨P, ⟨⟨j, s0, s1, rfl, ⟨hb, Nat.zero_le _, by rw [hz]; exact hJ.jhi, ht.own hJ.own0 ?_, ht.own hJ.own1 ?_, fun k hk => by rw [hz]; exact hJ.hi0 k hk, fun k hk => by rw [hz]; exact hJ.hi1 k hk, hJ.apart⟩, hP⟩, h.ok.sync, h.lim, Nat.zero_le _⟩, ht.mono fun k hk => (hP k).2 (.inl hk), fun k hk => .inl hk⟩
    · rintro k hk rfl; exact noBox hJ.box hJ.own0 hk
    · rintro k hk rfl; exact noBox hJ.box hJ.own1 hk
  rcases slot01 p.gen with hs | hs
  · have e0 : (p.jl limit).l0 = p.cur := by show (if slotOf p.gen = 0 then _ else _) = _; rw [if_pos hs]
    refine (sync_0 w 0 _ j _ _ _ hJ hs).mono ?_
    rintro e w' ⟨rfl, ho, hb⟩
    refine ⟨rfl, fin w' ho ?_⟩
    rw [e0, hc] at hb; exact hb
  · have e1 : (p.jl limit).l1 = p.cur := by show (if slotOf p.gen = 0 then _ else _) = _; rw [if_neg (by omega)]
    refine (sync_1 w 0 _ j _ _ _ hJ hs).mono ?_
    rintro e w' ⟨rfl, ho, hb⟩
    refine ⟨rfl, fin w' ho ?_⟩
    rw [e1, hc] at hb; exact hb
/-! ### Stat -/
theorem jn_stat {w : World} {V : Value} {p : PS} {limit : Int} {P : Nat → Prop} (h : Jn w V p limit P) :
    Calls Tryd.prog 43 #[V] w fun e w' => e = .returned (.agg #[.int .u64 p.gen, .int .i64 (slotOf p.gen : Nat), .int .i64 p.rs.length, .int .i64 p.len, .int .i64 p.wa, .int .i64 (p.len - p.sy : Nat)]) ∧ Below w.heap.size w w' := by
  obtain ⟨hl0, hl1⟩ := goodLim_le h.lim
  obtain ⟨j, s0, s1, rfl, hJ, hP⟩ := h.at'
  have hc := p.cur_len
  have hln := h.ok.lim
  have hsy := h.ok.sy1
  rcases slot01 p.gen with hs | hs
  · have e0 : (p.jl limit).l0 = p.cur := by show (if slotOf p.gen = 0 then _ else _) = _; rw [if_pos hs]
    have := stat_0 w 0 _ j _ _ _ hJ hs (by rw [e0, hc]; omega) (by rw [e0, hc]; exact hsy)
    rw [e0, hc] at this
    rw [hs]; exact this
  · have e1 : (p.jl limit).l1 = p.cur := by show (if slotOf p.gen = 0 then _ else _) = _; rw [if_neg (by omega)]
    have := stat_1 w 0 _ j _ _ _ hJ hs (by rw [e1, hc]; omega) (by rw [e1, hc]; exact hsy)
    rw [e1, hc] at this
    rw [hs]; exact this
/-! ### Disk, Crash -/
/-- a disk's two slots, each in memory of its own from base on -/
def Dsk (w : World) (base : Nat) (v0 v1 : Value) (b0 b1 : List Int) : Prop := OwnB w base v0 b0 ∧ OwnB w base v1 b1 ∧ ∀ k, v0.ownBlock = some k → v1.ownBlock ≠ some k
/-- the two slots where n bytes of the one in use are left -/
def PS.d0 (p : PS) (n : Nat) : List Int := if slotOf p.gen = 0 then p.cur.take n else p.old
def PS.d1 (p : PS) (n : Nat) : List Int := if slotOf p.gen = 0 then p.old else p.cur.take n
theorem PS.Ok.old_le {p : PS} {limit : Int} (h : p.Ok limit) (hl : goodLim limit = true) : p.old.length ≤ 16777216 := by
  have h1 := goodLim_le hl
  have h2 := h.old_len (by omega)
  omega
theorem jn_disk {w : World} {V : Value} {p : PS} {limit : Int} {P : Nat → Prop} (h : Jn w V p limit P) :
    Calls Tryd.prog 38 #[V] w fun e w' => ∃ A0 n0 c0 A1 n1 c1, e = .returned (.agg #[.slice A0 n0 c0, .slice A1 n1 c1]) ∧ Dsk w' w.heap.size (.slice A0 n0 c0) (.slice A1 n1 c1) (p.d0 p.sy) (p.d1 p.sy) ∧ Below w.heap.size w w' := by
  obtain ⟨hl0, hl1⟩ := goodLim_le h.lim
  obtain ⟨j, s0, s1, rfl, hJ, hP⟩ := h.at'
  have hc := p.cur_len
  have ho := h.ok.old_le h.lim
  have hln := h.ok.lim
  have hsy := h.ok.sy1
  rcases slot01 p.gen with hs | hs
  · have e0 : (p.jl limit).l0 = p.cur := by show (if slotOf p.gen = 0 then _ else _) = _; rw [if_pos hs]
    have e1 : (p.jl limit).l1 = p.old := by show (if slotOf p.gen = 0 then _ else _) = _; rw [if_pos hs]
    refine (disk_0 w 0 _ j _ _ _ hJ hs (by rw [e0, hc]; omega) (by rw [e1]; omega) (by rw [e0, hc]; exact hsy)).mono ?_
    rintro e w' ⟨a0, m0, k0, a1, m1, k1, rfl, o0, o1, hap, hb⟩
    rw [e0] at o0
    rw [e1] at o1
    exact ⟨a0, m0, k0, a1, m1, k1, rfl, ⟨by unfold PS.d0; rw [if_pos hs]; exact o0, by unfold PS.d1; rw [if_pos hs]; exact o1, hap⟩, hb⟩
  · have e0 : (p.jl limit).l0 = p.old := by show (if slotOf p.gen = 0 then _ else _) = _; rw [if_neg (by omega)]
    have e1 : (p.jl limit).l1 = p.cur := by show (if slotOf p.gen = 0 then _ else _) = _; rw [if_neg (by omega)]
    refine (disk_1 w 0 _ j _ _ _ hJ hs (by rw [e0]; omega) (by rw [e1, hc]; omega) (by rw [e1, hc]; exact hsy)).mono ?_
    rintro e w' ⟨a0, m0, k0, a1, m1, k1, rfl, o0, o1, hap, hb⟩
    rw [e0] at o0
    rw [e1] at o1
    exact ⟨a0, m0, k0, a1, m1, k1, rfl, ⟨by unfold PS.d0; rw [if_neg (by omega)]; exact o0, by unfold PS.d1; rw [if_neg (by omega)]; exact o1, hap⟩, hb⟩
/-- how many bytes of the slot in use a crash leaves -/
def PS.left (p : PS) (k : Int) : Nat := p.sy + min k.toNat (p.len - p.sy)
theorem butTch {g : Nat} {W W' : World} (h : BelowBut g W W') : Tch (fun k => k = g) W W' := ⟨h.os, h.tape, h.output, h.size, h.block⟩
theorem jn_crash {w : World} {V : Value} {p : PS} {limit : Int} {P : Nat → Prop} (h : Jn w V p limit P) (k : Int) (hk : 0 ≤ k ∧ k ≤ 9223372036854775807) :
    Calls Tryd.prog 27 #[V, .int .i64 k] w fun e w' => ∃ A0 n0 c0 A1 n1 c1, e = .returned (.tuple #[.agg #[.slice A0 n0 c0, .slice A1 n1 c1], .int .i64 0]) ∧ Dsk w' w.heap.size (.slice A0 n0 c0) (.slice A1 n1 c1) (p.d0 (p.left k)) (p.d1 (p.left k)) ∧ Gone w' V 92 ∧ Tch P w w' := by
  obtain ⟨hl0, hl1⟩ := goodLim_le h.lim
  obtain ⟨j, s0, s1, rfl, hJ, hP⟩ := h.at'
  have hc := p.cur_len
  have ho := h.ok.old_le h.lim
  have hln := h.ok.lim
  have hsy := h.ok.sy1
  rcases slot01 p.gen with hs | hs
  · have e0 : (p.jl limit).l0 = p.cur := by show (if slotOf p.gen = 0 then _ else _) = _; rw [if_pos hs]
    have e1 : (p.jl limit).l1 = p.old := by show (if slotOf p.gen = 0 then _ else _) = _; rw [if_pos hs]
    have ek : keepL (p.jl limit) (p.jl limit).l0 k = p.left k := by unfold keepL PS.left; rw [e0, hc]; rfl
    refine (crash_0 w 0 _ j _ _ _ hJ hs (by rw [e0, hc]; omega) (by rw [e1]; omega) (by rw [e0, hc]; exact hsy) k hk).mono ?_
    rintro e w' ⟨t0, t1, rfl, o0, o1, hap, hd, hb⟩
    rw [ek, e0] at o0
    rw [e1] at o1
    exact ⟨t0.1, t0.2.1, t0.2.2, t1.1, t1.2.1, t1.2.2, rfl, ⟨by unfold PS.d0; rw [if_pos hs]; exact o0, by unfold PS.d1; rw [if_pos hs]; exact o1, hap⟩, .inr ⟨j, rfl, rfl, hd⟩, (butTch hb).mono fun k hk => (hP k).2 (.inl hk)⟩
  · have e0 : (p.jl limit).l0 = p.old := by show (if slotOf p.gen = 0 then _ else _) = _; rw [if_neg (by omega)]
    have e1 : (p.jl limit).l1 = p.cur := by show (if slotOf p.gen = 0 then _ else _) = _; rw [if_neg (by omega)]
    have ek : keepL (p.jl limit) (p.jl limit).l1 k = p.left k := by unfold keepL PS.left; rw [e1, hc]; rfl
    refine (crash_1 w 0 _ j _ _ _ hJ hs (by rw [e0]; omega) (by rw [e1, hc]; omega) (by rw [e1, hc]; exact hsy) k hk).mono ?_
    rintro e w' ⟨t0, t1, rfl, o0, o1, hap, hd, hb⟩
    rw [e0] at o0
    rw [ek, e1] at o1
    exact ⟨t0.1, t0.2.1, t0.2.2, t1.1, t1.2.1, t1.2.2, rfl, ⟨by unfold PS.d0; rw [if_neg (by omega)]; exact o0, by unfold PS.d1; rw [if_neg (by omega)]; exact o1, hap⟩, .inr ⟨j, rfl, rfl, hd⟩, (butTch hb).mono fun k hk => (hP k).2 (.inl hk)⟩
/-! ### Open -/
/-- what Open answers: the state, the records, in memory of their own -/
structure Rep (w : World) (base : Nat) (sv rv : Value) (st : List Int) (rs : List (List Int)) : Prop where
  mid : ∃ m, base ≤ m ∧ HoldsIn w base m rv rs ∧ OwnB w m sv st
/-- Open of a disk that opens: the journal's memory lies apart from what is replayed -/
theorem jn_open (w : World) (A0 : Option Addr) (n0 c0 : Nat) (A1 : Option Addr) (n1 c1 : Nat) (b0 b1 : List Int) (limit : Int) (q : PS) (torn : Nat) (hl0 : b0.length = n0) (hc0 : n0 ≤ c0) (hl1 : b1.length = n1) (hc1 : n1 ≤ c1)
    (hb0 : ∀ x ∈ b0, isB x) (hb1 : ∀ x ∈ b1, isB x) (hR0 : U8s w.heap.size w A0 b0) (hR1 : U8s w.heap.size w A1 b1) (ho : OpenTo b0 b1 limit q torn) (hq : q.wa = 0) :
    Calls Tryd.prog 16 #[.agg #[.slice A0 n0 c0, .slice A1 n1 c1], .int .i64 limit] w fun e w' => ∃ V sv rv P m1 m2, e = .returned (.tuple #[V, .agg #[.int .u64 q.gen, sv, rv, .int .i64 (torn : Int)], .nilIface]) ∧ V ≠ .pointer none ∧
      Below w.heap.size w w' ∧ Jn w' V q limit P ∧ (∀ k, P k → m1 ≤ k ∧ k < m2) ∧ w.heap.size ≤ m1 ∧ m1 ≤ m2 ∧ HoldsIn w' w.heap.size m1 rv q.rs ∧ OwnB w' m2 sv q.st := by
  refine (open_ok w A0 n0 c0 A1 n1 c1 b0 b1 limit hl0 hc0 hl1 hc1 hb0 hb1 hR0 hR1 ho.ok).mono ?_
  rintro e w' ⟨j, s0, s1, sv, V, m1, m2, rfl, hb, h1, h2, hh, hJ, hs⟩
  rw [ho.jl] at hJ
  rw [ho.recs] at hh
  rw [ho.state] at hs
  refine ⟨_, sv, V, fun k => k = j ∨ s0.v.ownBlock = some k ∨ s1.v.ownBlock = some k, m1, m2, by rw [ho.jl, ho.torn]; rfl, by simp, hb, ⟨⟨j, s0, s1, rfl, ⟨hJ.box, Nat.zero_le _, (Array.getElem?_eq_some_iff.1 hJ.box).1, own_mono hJ.own0 (Nat.zero_le _), own_mono hJ.own1 (Nat.zero_le _), fun k hk => (hJ.own0.lt k hk).2, fun k hk => (hJ.own1.lt k hk).2, hJ.apart⟩, fun k => Iff.rfl⟩, ho.good, ho.ok.lim, by rw [hq]; exact Nat.zero_le _⟩, ?_, h1, h2, hh, hs⟩
  rintro k (rfl | hk | hk)
  · exact ⟨hJ.jlo, hJ.jhi⟩
  · exact ⟨(hJ.own0.lt k hk).1, hJ.hi0 k hk⟩
  · exact ⟨(hJ.own1.lt k hk).1, hJ.hi1 k hk⟩
/-! ### a fresh disk -/
def PS.fresh (st : List Int) : PS := ⟨1, st, [], 24 + st.length, 0, none⟩
theorem PS.fresh_cur (st : List Int) : (PS.fresh st).cur = begunB 1 st := by simp [PS.cur, PS.fresh, slotB, logB]
theorem PS.fresh_len (st : List Int) : (PS.fresh st).len = 24 + st.length := by simp [PS.len, PS.fresh, logLen]
theorem PS.fresh_ok {st : List Int} {limit : Int} (hs : ∀ x ∈ st, isB x) (hn : st.length ≤ 4194304) (hf : 24 + (st.length : Int) ≤ limit) : (PS.fresh st).Ok limit :=
  ⟨by show (1 : Int) ≤ 1; omega, by show (1 : Int) ≤ _; omega, hs, hn, fun x hx => by simp [PS.fresh] at hx, by rw [PS.fresh_len]; omega, fun x hx => by simp [PS.fresh] at hx, by rw [PS.fresh_len]; exact Nat.le_refl _, fun _ => Nat.le_refl _⟩
theorem open_fresh {st : List Int} {limit : Int} (hs : ∀ x ∈ st, isB x) (hn : st.length ≤ 4194304) (hf : 24 + (st.length : Int) ≤ limit) (hlim : goodLim limit = true) : OpenTo (begunB 1 st) [] limit (PS.fresh st) 0 := by
  have h := open_cut (PS.fresh_ok hs hn hf) hlim (24 + st.length) (Nat.le_refl _) (by rw [PS.fresh_len]; exact Nat.le_refl _)
  have e1 : (PS.fresh st).cut (24 + st.length) = PS.fresh st := by
    unfold PS.cut PS.fresh
    simp [fitN, logLen]
  have e2 : (PS.fresh st).torn (24 + st.length) = 0 := by
    unfold PS.torn PS.fresh
    simp [tornN]
  have e3 : (PS.fresh st).cur.take (24 + st.length) = begunB 1 st := by
    rw [PS.fresh_cur]; exact List.take_of_length_le (by rw [begunB_len]; exact Nat.le_refl _)
  rw [e1, e2, e3] at h
  exact h
end Go.Proofs.YtfcgmlofiaehkaaDoor
