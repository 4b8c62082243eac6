/- errors.As that finds nothing; journal.Reason. -/
import Derived.Test.YtfcgmlofiaehkaaDoorJAs
import Derived.Test.YtfcgmlofiaehkaaDoorJT
namespace Go.Proofs.YtfcgmlofiaehkaaDoor
open Go.RowKit Go.Extern.Stop Go.Stop Go.Extern

/-- the variable errors.errorType, as the rows list it -/
def ErrT (w : World) : Prop := w.cell? ⟨0, 0, none⟩ = some (.iface 172 (.agg #[.pointer (some ⟨4, 32, none⟩)]))
theorem ErrT.below {w w' : World} {B : Nat} (h : ErrT w) (hb : Below B w w') (hB : 0 < B) : ErrT w' := (hb.cell (p := ⟨0, 0, none⟩) hB).trans h
theorem ErrT.pos {w : World} (h : ErrT w) : 0 < w.heap.size := by
  rcases Nat.eq_zero_or_pos w.heap.size with h0 | h'
  · unfold ErrT at h; simp [World.cell?, h0] at h
  · exact h'
theorem Tryd.noAsN (v : Value) (xT : TypeId) (w : World) : (Instr.typeAssert (.iface 45 v) xT 176 true).run Tryd.prog w = .ok (.tuple #[.nilIface, .bool false]) w := run_typeAssert_lacksB Tryd.underlying176 (by kernel_rfl) (by kernel_rfl) v xT w
theorem Tryd.noAsF (v : Value) (xT : TypeId) (w : World) : (Instr.typeAssert (.iface 55 v) xT 176 true).run Tryd.prog w = .ok (.tuple #[.nilIface, .bool false]) w := run_typeAssert_lacksB Tryd.underlying176 (by kernel_rfl) (by kernel_rfl) v xT w
theorem Tryd.noUnN (v : Value) (xT : TypeId) (w : World) : (Instr.typeAssert (.iface 45 v) xT 179 true).run Tryd.prog w = .ok (.tuple #[.nilIface, .bool false]) w := run_typeAssert_lacksB Tryd.underlying179 (by kernel_rfl) (by kernel_rfl) v xT w
theorem Tryd.noUnsN (v : Value) (xT : TypeId) (w : World) : (Instr.typeAssert (.iface 45 v) xT 180 true).run Tryd.prog w = .ok (.tuple #[.nilIface, .bool false]) w := run_typeAssert_lacksB Tryd.underlying180 (by kernel_rfl) (by kernel_rfl) v xT w
theorem Tryd.hasUnF (v : Value) (xT : TypeId) (w : World) : (Instr.typeAssert (.iface 55 v) xT 179 true).run Tryd.prog w = .ok (.tuple #[.iface 55 v, .bool true]) w := run_typeAssert_hasB Tryd.underlying179 (by kernel_rfl) v xT w
theorem Tryd.methodUnF (v : Value) (w : World) : (Go.method 330 55 v "Unwrap").run Tryd.prog w = .ok (22, v) w := by kernel_rfl
theorem Tryd.notAssNF (w : World) : (ReflectliteType.relation "AssignableTo" ReflectliteType.assignableTo #[.agg #[.pointer (some ⟨4, 45, none⟩)], .iface 172 (.agg #[.pointer (some ⟨4, 55, none⟩)])]).run Tryd.prog w = .ok (.bool false) w := by kernel_rfl
theorem Tryd.notAssFN (w : World) : (ReflectliteType.relation "AssignableTo" ReflectliteType.assignableTo #[.agg #[.pointer (some ⟨4, 55, none⟩)], .iface 172 (.agg #[.pointer (some ⟨4, 45, none⟩)])]).run Tryd.prog w = .ok (.bool false) w := by kernel_rfl
theorem unwrap_nil (w : World) : Calls Tryd.prog 22 #[.pointer none] w fun e w' => e = .returned .nilIface ∧ w' = w := by
  go_enter Tryd.func22, Tryd.ntmps22
  go_wp2
  go_ret
  exact ⟨rfl, rfl⟩
theorem unwrap_any (w : World) (g : Nat) (why : Int) (h : w.cell? ⟨g, 2, none⟩ = some (.int .i64 why)) : Calls Tryd.prog 22 #[.pointer (some ⟨g, 0, none⟩)] w fun e w' => e = .returned (if why = 0 then .nilIface else .iface 45 (.int .i64 why)) ∧ w' = w := by
  by_cases hw : why = 0
  · rw [if_pos hw]
    subst hw
    go_enter Tryd.func22, Tryd.ntmps22
    go_wp2
    go_ret
    exact ⟨rfl, rfl⟩
  · rw [if_neg hw]
    have hw2 : (why == 0) = false := by simpa using hw
    go_enter Tryd.func22, Tryd.ntmps22
    go_wp2
    go_ret
    exact ⟨rfl, rfl⟩
set_option maxRecDepth 100000 in
set_option maxHeartbeats 4000000 in
/-- a bare Errno is no *Fault -/
theorem as_miss_NF (x : Int) (t : Addr) (w : World) (hg : ErrT w) :
    Calls Tryd.prog 49 #[.iface 45 (.int .i64 x), .iface 105 (.pointer (some t))] w fun ev w' => ev = .returned (.bool false) ∧ Below w.heap.size w w' := by
  have h6 := @run_callFunc_extern Tryd.prog 73 _ (fun args => ReflectliteValue.unpack (args.getD 0 (.tuple #[]))) Tryd.func73 (by kernel_rfl) (by kernel_rfl) (by kernel_rfl) (by kernel_rfl)
  have h7 := @run_callFunc_extern Tryd.prog 74 _ (ReflectliteValue.methodAny (ReflectliteValue.valueError "reflectlite.Value.Type" 0) (fun t _ _ _ => ReflectliteType.toType t)) Tryd.func74 (by kernel_rfl) (by kernel_rfl) (by kernel_rfl) (by kernel_rfl)
  have h8 := @run_callFunc_extern Tryd.prog 75 _ (ReflectliteValue.method (ReflectliteValue.valueError "reflectlite.Value.IsNil" 0) ReflectliteValue.isNil) Tryd.func75 (by kernel_rfl) (by kernel_rfl) (by kernel_rfl) (by kernel_rfl)
  have h27 := @run_callFunc_extern Tryd.prog 124 _ (ReflectliteType.abiMethod fun t => do pure (.int .u8 (← Rtype.kind t))) Tryd.func124 (by kernel_rfl) (by kernel_rfl) (by kernel_rfl) (by kernel_rfl)
  have h37 := @run_callFunc_extern Tryd.prog 139 _ (ReflectliteType.method ReflectliteType.elem) Tryd.func139 (by kernel_rfl) (by kernel_rfl) (by kernel_rfl) (by kernel_rfl)
  have h38 := @run_callFunc_extern Tryd.prog 140 _ (ReflectliteType.relation "Implements" ReflectliteType.implements_) Tryd.func140 (by kernel_rfl) (by kernel_rfl) (by kernel_rfl) (by kernel_rfl)
  have h10 := @run_callFunc_extern Tryd.prog 81 _ ReflectliteType.typeOf Tryd.func81 (by kernel_rfl) (by kernel_rfl) (by kernel_rfl) (by kernel_rfl)
  have h35 := @run_callFunc_extern Tryd.prog 137 _ (ReflectliteType.relation "AssignableTo" ReflectliteType.assignableTo) Tryd.func137 (by kernel_rfl) (by kernel_rfl) (by kernel_rfl) (by kernel_rfl)
  have mA := Tryd.methodAssignableTo
  have f6 := Tryd.valueOfPF
  have f7 := Tryd.typePF
  have mK := Tryd.methodKind
  have mE := Tryd.methodElem
  have mI := Tryd.methodImplements
  have k27 := Tryd.kindPF
  have k25 := Tryd.kindTF
  have e27 := Tryd.elemPF
  have i25 := Tryd.implementsTF
  have n8 := Tryd.isNilPF ⟨w.heap.size, 0, none⟩ t ((w.alloc (.cells #[.pointer (some t)] 105)).alloc (.cells #[.pointer (some ⟨4, 105, none⟩), .pointer (some ⟨w.heap.size, 0, none⟩), .int .u64 150] 148)) (by simp)
  have hlt := hg.pos
  have hg2 : ((w.alloc (.cells #[.pointer (some t)] 105)).alloc (.cells #[.pointer (some ⟨4, 105, none⟩), .pointer (some ⟨w.heap.size, 0, none⟩), .int .u64 150] 148)).cell? ⟨0, 0, none⟩ = some (.iface 172 (.agg #[.pointer (some ⟨4, 32, none⟩)])) := by
    rw [World.cell?_alloc_lt _ _ ⟨0, 0, none⟩ (by simp), World.cell?_alloc_lt _ _ ⟨0, 0, none⟩ hlt]; exact hg
  have tO := Tryd.typeOfTN
  have a25 := Tryd.notAssNF
  have q1 := Tryd.noAsN
  have q2 := Tryd.noUnN
  have q3 := Tryd.noUnsN
  clear hg
  go_enter Tryd.func49, Tryd.ntmps49
  go_wp2
  refine wp_loop_rounds 1 ?_
  rw [rounds_succ]
  go_wp2
  go_ret
  exact ⟨rfl, (((Below.refl _ w).alloc (Nat.le_refl _) _).alloc (by simp) _).alloc (by simp; omega) _⟩
set_option maxRecDepth 100000 in
set_option maxHeartbeats 4000000 in
/-- a nil *Fault is no Errno, and wraps nothing -/
theorem as_miss_FN (t : Addr) (w : World) (hg : ErrT w) :
    Calls Tryd.prog 49 #[.iface 55 (.pointer none), .iface 126 (.pointer (some t))] w fun ev w' => ev = .returned (.bool false) ∧ Below w.heap.size w w' := by
  have h6 := @run_callFunc_extern Tryd.prog 73 _ (fun args => ReflectliteValue.unpack (args.getD 0 (.tuple #[]))) Tryd.func73 (by kernel_rfl) (by kernel_rfl) (by kernel_rfl) (by kernel_rfl)
  have h7 := @run_callFunc_extern Tryd.prog 74 _ (ReflectliteValue.methodAny (ReflectliteValue.valueError "reflectlite.Value.Type" 0) (fun t _ _ _ => ReflectliteType.toType t)) Tryd.func74 (by kernel_rfl) (by kernel_rfl) (by kernel_rfl) (by kernel_rfl)
  have h8 := @run_callFunc_extern Tryd.prog 75 _ (ReflectliteValue.method (ReflectliteValue.valueError "reflectlite.Value.IsNil" 0) ReflectliteValue.isNil) Tryd.func75 (by kernel_rfl) (by kernel_rfl) (by kernel_rfl) (by kernel_rfl)
  have h27 := @run_callFunc_extern Tryd.prog 124 _ (ReflectliteType.abiMethod fun t => do pure (.int .u8 (← Rtype.kind t))) Tryd.func124 (by kernel_rfl) (by kernel_rfl) (by kernel_rfl) (by kernel_rfl)
  have h37 := @run_callFunc_extern Tryd.prog 139 _ (ReflectliteType.method ReflectliteType.elem) Tryd.func139 (by kernel_rfl) (by kernel_rfl) (by kernel_rfl) (by kernel_rfl)
  have h38 := @run_callFunc_extern Tryd.prog 140 _ (ReflectliteType.relation "Implements" ReflectliteType.implements_) Tryd.func140 (by kernel_rfl) (by kernel_rfl) (by kernel_rfl) (by kernel_rfl)
  have h10 := @run_callFunc_extern Tryd.prog 81 _ ReflectliteType.typeOf Tryd.func81 (by kernel_rfl) (by kernel_rfl) (by kernel_rfl) (by kernel_rfl)
  have h35 := @run_callFunc_extern Tryd.prog 137 _ (ReflectliteType.relation "AssignableTo" ReflectliteType.assignableTo) Tryd.func137 (by kernel_rfl) (by kernel_rfl) (by kernel_rfl) (by kernel_rfl)
  have mA := Tryd.methodAssignableTo
  have f6 := Tryd.valueOfPN
  have f7 := Tryd.typePN
  have mK := Tryd.methodKind
  have mE := Tryd.methodElem
  have mI := Tryd.methodImplements
  have k27 := Tryd.kindPN
  have k25 := Tryd.kindTN
  have e27 := Tryd.elemPN
  have i25 := Tryd.implementsTN
  have n8 := Tryd.isNilPN ⟨w.heap.size, 0, none⟩ t ((w.alloc (.cells #[.pointer (some t)] 126)).alloc (.cells #[.pointer (some ⟨4, 126, none⟩), .pointer (some ⟨w.heap.size, 0, none⟩), .int .u64 150] 148)) (by simp)
  have hlt := hg.pos
  have hg2 : ((w.alloc (.cells #[.pointer (some t)] 126)).alloc (.cells #[.pointer (some ⟨4, 126, none⟩), .pointer (some ⟨w.heap.size, 0, none⟩), .int .u64 150] 148)).cell? ⟨0, 0, none⟩ = some (.iface 172 (.agg #[.pointer (some ⟨4, 32, none⟩)])) := by
    rw [World.cell?_alloc_lt _ _ ⟨0, 0, none⟩ (by simp), World.cell?_alloc_lt _ _ ⟨0, 0, none⟩ hlt]; exact hg
  have tO := Tryd.typeOfTF
  have a25 := Tryd.notAssFN
  have q1 := Tryd.noAsF
  have q2 := Tryd.hasUnF
  have q3 := Tryd.methodUnF
  clear hg
  go_enter Tryd.func49, Tryd.ntmps49
  go_wp2
  refine wp_loop_rounds 1 ?_
  rw [rounds_succ]
  go_wp2_with (go_at_call 22; refine (unwrap_nil _).mono ?_; rintro e w' ⟨rfl, rfl⟩)
  go_ret
  exact ⟨rfl, (((Below.refl _ w).alloc (Nat.le_refl _) _).alloc (by simp) _).alloc (by simp; omega) _⟩
/-- a hit, told by what it leaves -/
theorem as_hitF' (e : Option Addr) (t : Addr) (old : Value) (w : World) (hg : ErrT w) (ht0 : w.cell? t = some old) (hf0 : w.frozen? t = false) :
    Calls Tryd.prog 49 #[.iface 55 (.pointer e), .iface 105 (.pointer (some t))] w fun ev w' => ev = .returned (.bool true) ∧ ∃ W1, Below w.heap.size w W1 ∧ w' = W1.setCell t (.pointer e) :=
  (as_hitF e t old w hg ht0 hf0).mono fun ev w' h => ⟨h.1, _, ((((Below.refl _ w).alloc (Nat.le_refl _) _).alloc (by simp) _).alloc (by simp; omega) _).alloc (by simp; omega) _, h.2⟩
/-- a hit, told by what it leaves -/
theorem as_hitN' (x : Int) (t : Addr) (old : Value) (w : World) (hg : ErrT w) (ht0 : w.cell? t = some old) (hf0 : w.frozen? t = false) :
    Calls Tryd.prog 49 #[.iface 45 (.int .i64 x), .iface 126 (.pointer (some t))] w fun ev w' => ev = .returned (.bool true) ∧ ∃ W1, Below w.heap.size w W1 ∧ w' = W1.setCell t (.int .i64 x) :=
  (as_hitN x t old w hg ht0 hf0).mono fun ev w' h => ⟨h.1, _, ((((Below.refl _ w).alloc (Nat.le_refl _) _).alloc (by simp) _).alloc (by simp; omega) _).alloc (by simp; omega) _, h.2⟩
end Go.Proofs.YtfcgmlofiaehkaaDoor
