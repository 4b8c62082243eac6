/- errors.Is by its contract: an ending of a scan, held against rot. -/
import Derived.Test.YtfcgmlofiaehkaaDoorJH
import Derived.LaidEql
import Derived.Stop.Asserts
import Derived.RowKitTokens
namespace Go.Proofs.YtfcgmlofiaehkaaDoor
open Go.RowKit Go.Extern.Stop Go.Stop Go.Extern

theorem run_eql_iface_str {P : Program} (w : World) {t tx : TypeId} {ms : Array (String × TypeId)} (a b : ByteArray)
    (ht : P.underlying t = some (.interface ms)) (hc : (P.info? tx).map (·.comparable) = some true) (hx : P.underlying tx = some .string) :
    (binOp .eql t (.iface tx (.string a)) (.iface tx (.string b))).run P w = .ok (.bool (a == b)) w := by
  cases hi : P.info? tx with
  | none => simp [hi] at hc
  | some i =>
    have hcc : i.comparable = true := by simpa [hi] using hc
    have h : ∀ d : Nat, (Op.equalIn (d + 2) t (.iface tx (.string a)) (.iface tx (.string b))).run P w = .ok (a == b) w := fun d => by
      simp [Op.equalIn, run_underlying ht, run_underlying hx, typeInfo, hi, hcc]
    simp only [binOp]
    simp [Op.equal, Op.maxDepth, h 9998]
theorem Tryd.isTypeOf (v : Value) (w : World) : (Extern.ReflectliteType.typeOf #[.iface 115 v]).run Tryd.prog w = .ok (.iface 172 (.agg #[.pointer (some ⟨4, 115, none⟩)])) w := by kernel_rfl
theorem Tryd.isComparable (w : World) : ((Extern.ReflectliteType.method fun t => do Rtype.noPackHeld "Comparable" t; (fun a => Value.bool a.comparable) <$> typeInfo t) #[.agg #[.pointer (some ⟨4, 115, none⟩)]]).run Tryd.prog w = .ok (.bool true) w := by kernel_rfl
theorem Tryd.isMethodComparable (v : Value) (w : World) : (Go.method 330 172 v "Comparable").run Tryd.prog w = .ok (138, v) w := by kernel_rfl
theorem Tryd.isComp : (Tryd.prog.info? 115).map (·.comparable) = some true := by kernel_rfl
theorem Tryd.noIsE (v : Value) (xT : TypeId) (w : World) : (Instr.typeAssert (.iface 113 v) xT 183 true).run Tryd.prog w = .ok (.tuple #[.nilIface, .bool false]) w := run_typeAssert_lacksB Tryd.underlying183 (by kernel_rfl) (by kernel_rfl) v xT w
theorem Tryd.noIsY (v : Value) (xT : TypeId) (w : World) : (Instr.typeAssert (.iface 115 v) xT 183 true).run Tryd.prog w = .ok (.tuple #[.nilIface, .bool false]) w := run_typeAssert_lacksB Tryd.underlying183 (by kernel_rfl) (by kernel_rfl) v xT w
theorem Tryd.hasUnwrapE (v : Value) (xT : TypeId) (w : World) : (Instr.typeAssert (.iface 113 v) xT 179 true).run Tryd.prog w = .ok (.tuple #[.iface 113 v, .bool true]) w := run_typeAssert_hasB Tryd.underlying179 (by kernel_rfl) v xT w
theorem Tryd.noUnwrapY (v : Value) (xT : TypeId) (w : World) : (Instr.typeAssert (.iface 115 v) xT 179 true).run Tryd.prog w = .ok (.tuple #[.nilIface, .bool false]) w := run_typeAssert_lacksB Tryd.underlying179 (by kernel_rfl) (by kernel_rfl) v xT w
theorem Tryd.noUnwrapsY (v : Value) (xT : TypeId) (w : World) : (Instr.typeAssert (.iface 115 v) xT 180 true).run Tryd.prog w = .ok (.tuple #[.nilIface, .bool false]) w := run_typeAssert_lacksB Tryd.underlying180 (by kernel_rfl) (by kernel_rfl) v xT w
theorem Tryd.methodUnwrap (v : Value) (w : World) : (Go.method 330 113 v "Unwrap").run Tryd.prog w = .ok (131, v) w := by kernel_rfl
theorem rot_ne : (tornS == rotS) = false := by decide +kernel
theorem rot_eq : (rotS == rotS) = true := by decide +kernel

set_option maxRecDepth 100000 in
set_option maxHeartbeats 4000000 in
theorem is_end (b : Nat) (rot : Bool) (at' : Value) (w : World) (h : Row w b [at', .string (endS rot)]) :
    Calls Tryd.prog 53 #[.iface 113 (.pointer (some ⟨b, 0, none⟩)), .iface 115 (.string rotS)] w fun e w' => e = .returned (.bool rot) ∧ w' = w := by
  have h1 := h.2 1 _ rfl
  have h8 := @run_callFunc_extern Tryd.prog 81 _ Extern.ReflectliteType.typeOf Tryd.func81 (by kernel_rfl) (by kernel_rfl) (by kernel_rfl) (by kernel_rfl)
  have h32 := @run_callFunc_extern Tryd.prog 138 _ (Extern.ReflectliteType.method fun t => do Rtype.noPackHeld "Comparable" t; pure (.bool (← typeInfo t).comparable)) Tryd.func138 (by kernel_rfl) (by kernel_rfl) (by kernel_rfl) (by kernel_rfl)
  have tT := Tryd.isTypeOf
  have cT := Tryd.isComparable
  have mR := Tryd.isMethodComparable
  have nE := Tryd.noIsE
  have nY := Tryd.noIsY
  have uE := Tryd.hasUnwrapE
  have uY := Tryd.noUnwrapY
  have vY := Tryd.noUnwrapsY
  have mU := Tryd.methodUnwrap
  have hty := run_eql_iface_types (P := Tryd.prog) 113 115 (.pointer (some ⟨b, 0, none⟩)) (.string rotS) Tryd.underlying32 (by decide) w
  have heq := run_eql_iface_str (P := Tryd.prog) w (endS rot) rotS Tryd.underlying32 Tryd.isComp Tryd.underlying115
  have hr : (endS rot == rotS) = rot := by cases rot with
    | true => exact rot_eq
    | false => exact rot_ne
  rw [hr] at heq
  generalize endS rot = es at *
  generalize rotS = rs at *
  clear hr
  go_enter Tryd.func53, Tryd.ntmps53
  go_wp2
  refine wp_loop_rounds 2 ?_
  rw [rounds_succ]
  go_wp2
  rw [rounds_succ]
  cases rot with
  | true =>
    go_wp2
    go_ret
    exact ⟨rfl, rfl⟩
  | false =>
    go_wp2
    go_ret
    exact ⟨rfl, rfl⟩
end Go.Proofs.YtfcgmlofiaehkaaDoor
