/- errors.Is at the program's own errors: nil, a number (api.Errno), a number with a place (api.Fault), a desk's fault; the target a number. It answers whether the number is that one. No memory is written. -/
import Derived.Test.YthonikkoafoohaaGreatDoorProg
import Derived.WalkKit
import Derived.LaidEql
import Derived.Stop.Asserts
import Derived.RowKitTokens
import Derived.Lib.Hide
namespace Go.Proofs.YthonikkoafoohaaGreatDoor.Errs
open Go.RowKit Go.Extern.Stop Go.Stop Go.Extern

section
variable {P : Program} (w : World)
theorem run_equalIn_iface_int (d : Nat) {ti tn : TypeId} {ms : Array (String × TypeId)} {i : TypeInfo} {k : IntKind} (a b : Int)
    (hi : P.underlying ti = some (.interface ms)) (hn : P.underlying tn = some (.int k)) (hinfo : P.info? tn = some i) (hcomp : i.comparable = true) :
    (Op.equalIn (d + 2) ti (.iface tn (.int k a)) (.iface tn (.int k b))).run P w = .ok (a == b) w := by
  simp [Op.equalIn, run_underlying hi, run_underlying hn, typeInfo, hinfo, hcomp]
theorem run_eql_iface_int {ti tn : TypeId} {ms : Array (String × TypeId)} {i : TypeInfo} {k : IntKind} (a b : Int)
    (hi : P.underlying ti = some (.interface ms)) (hn : P.underlying tn = some (.int k)) (hinfo : P.info? tn = some i) (hcomp : i.comparable = true) :
    (binOp .eql ti (.iface tn (.int k a)) (.iface tn (.int k b))).run P w = .ok (.bool (a == b)) w := by
  simp only [binOp]
  simp [Op.equal, Op.maxDepth, run_equalIn_iface_int w 9998 a b hi hn hinfo hcomp]
end

theorem noComp : (Tryz.prog.info? 60).map (·.comparable) = some true := by kernel_rfl
theorem eqlNum (a b : Int) (w : World) : (binOp .eql 29 (.iface 60 (.int .i64 a)) (.iface 60 (.int .i64 b))).run Tryz.prog w = .ok (.bool (a == b)) w := by
  obtain ⟨i, hi, hc⟩ := Option.map_eq_some_iff.1 noComp
  exact run_eql_iface_int w a b Tryz.underlying29 Tryz.underlying60 hi hc
theorem isTypeOf (v : Value) (w : World) : (Extern.ReflectliteType.typeOf #[.iface 60 v]).run Tryz.prog w = .ok (.iface 320 (.agg #[.pointer (some ⟨10, 60, none⟩)])) w := by kernel_rfl
def compEntry : Array Value → Sem Value := Extern.ReflectliteType.method fun t => do Extern.Rtype.noPackHeld "Comparable" t; pure (.bool (← typeInfo t).comparable)
theorem isComparable (w : World) : (compEntry #[.agg #[.pointer (some ⟨10, 60, none⟩)]]).run Tryz.prog w = .ok (.bool true) w := by kernel_rfl
theorem isMethodComparable (v : Value) (w : World) : (Go.method (499) 320 v "Comparable").run Tryz.prog w = .ok (245, v) w := by kernel_rfl
/-! ### the method sets: no Is, no []error; a Fault and a fault unwrap to their number -/
theorem noIsN (v : Value) (xT : TypeId) (w : World) : (Instr.typeAssert (.iface 60 v) xT 351 true).run Tryz.prog w = .ok (.tuple #[.nilIface, .bool false]) w := run_typeAssert_lacksB Tryz.underlying351 (by kernel_rfl) (by kernel_rfl) v xT w
theorem noUnwrapN (v : Value) (xT : TypeId) (w : World) : (Instr.typeAssert (.iface 60 v) xT 327 true).run Tryz.prog w = .ok (.tuple #[.nilIface, .bool false]) w := run_typeAssert_lacksB Tryz.underlying327 (by kernel_rfl) (by kernel_rfl) v xT w
theorem noUnwrapsN (v : Value) (xT : TypeId) (w : World) : (Instr.typeAssert (.iface 60 v) xT 328 true).run Tryz.prog w = .ok (.tuple #[.nilIface, .bool false]) w := run_typeAssert_lacksB Tryz.underlying328 (by kernel_rfl) (by kernel_rfl) v xT w
theorem noIsF (v : Value) (xT : TypeId) (w : World) : (Instr.typeAssert (.iface 83 v) xT 351 true).run Tryz.prog w = .ok (.tuple #[.nilIface, .bool false]) w := run_typeAssert_lacksB Tryz.underlying351 (by kernel_rfl) (by kernel_rfl) v xT w
theorem hasUnwrapF (v : Value) (xT : TypeId) (w : World) : (Instr.typeAssert (.iface 83 v) xT 327 true).run Tryz.prog w = .ok (.tuple #[.iface 83 v, .bool true]) w := run_typeAssert_hasB Tryz.underlying327 (by kernel_rfl) v xT w
theorem methodUnwrapF (v : Value) (w : World) : (Go.method (499) 83 v "Unwrap").run Tryz.prog w = .ok (236, v) w := by kernel_rfl
theorem typesSize : Tryz.prog.types.size = 399 := by kernel_rfl

/-- (api.Fault).Unwrap: its number. -/
theorem unwrap_fault (n l a : Int) (w : World) : Calls Tryz.prog 236 #[.agg #[.int .i64 n, .int .i64 l, .int .i64 a]] w fun e w' => e = .returned (.iface 60 (.int .i64 n)) ∧ w' = w.alloc (.cells #[.int .i64 n, .int .i64 l, .int .i64 a] 83) := by
  go_enter Tryz.func236, Tryz.ntmps236
  go_wp2
  go_ret
  exact ⟨rfl, rfl⟩

theorem is_num (a b : Int) (w : World) : Calls Tryz.prog 182 #[.iface 60 (.int .i64 a), .iface 60 (.int .i64 b), .bool true] w fun e w' => e = .returned (.bool (a == b)) ∧ w' = w := by
  have nN := noIsN
  have uN := noUnwrapN
  have vN := noUnwrapsN
  by_cases hab : a = b
  · subst hab
    have heq := eqlNum a a w
    rw [show (a == a) = true from beq_self_eq_true a] at heq ⊢
    go_enter Tryz.func182, Tryz.ntmps182
    go_wp2
    refine wp_loop_rounds 1 ?_
    rw [rounds_succ]
    go_wp2
    go_ret
    exact ⟨rfl, rfl⟩
  · have heq := eqlNum a b w
    rw [show (a == b) = false from beq_eq_false_iff_ne.2 hab] at heq ⊢
    go_enter Tryz.func182, Tryz.ntmps182
    go_wp2
    refine wp_loop_rounds 1 ?_
    rw [rounds_succ]
    go_wp2
    go_ret
    exact ⟨rfl, rfl⟩

theorem is_fault (a l p b : Int) (w : World) : Calls Tryz.prog 182 #[.iface 83 (.agg #[.int .i64 a, .int .i64 l, .int .i64 p]), .iface 60 (.int .i64 b), .bool true] w fun e w' => e = .returned (.bool (a == b)) ∧ w' = w.alloc (.cells #[.int .i64 a, .int .i64 l, .int .i64 p] 83) := by
  have nN := noIsN
  have uN := noUnwrapN
  have vN := noUnwrapsN
  have nF := noIsF
  have uF := hasUnwrapF
  have mF := methodUnwrapF
  have hty := run_eql_iface_types (P := Tryz.prog) 83 60 (.agg #[.int .i64 a, .int .i64 l, .int .i64 p]) (.int .i64 b) Tryz.underlying29 (by decide)
  by_cases hab : a = b
  · subst hab
    have heq := eqlNum a a
    rw [show (a == a) = true from beq_self_eq_true a] at heq ⊢
    go_enter Tryz.func182, Tryz.ntmps182
    go_wp2
    refine wp_loop_rounds 2 ?_
    rw [rounds_succ]
    go_wp2
    rw [rounds_succ]
    go_wp2
    go_ret
    exact ⟨rfl, rfl⟩
  · have heq := eqlNum a b
    rw [show (a == b) = false from beq_eq_false_iff_ne.2 hab] at heq ⊢
    go_enter Tryz.func182, Tryz.ntmps182
    go_wp2
    refine wp_loop_rounds 2 ?_
    rw [rounds_succ]
    go_wp2
    rw [rounds_succ]
    go_wp2
    go_ret
    exact ⟨rfl, rfl⟩

/-! ### errors.Is -/
theorem Is_nil (b : Int) (w : World) : Calls Tryz.prog 151 #[.nilIface, .iface 60 (.int .i64 b)] w fun e w' => e = .returned (.bool false) ∧ w' = w := by
  have hn := run_eql_iface_nil_left (P := Tryz.prog) w 60 (.int .i64 b) Tryz.underlying29
  go_enter Tryz.func151, Tryz.ntmps151
  go_wp2
  go_ret
  exact ⟨rfl, rfl⟩
theorem Is_of (v : Value) (x : TypeId) (b : Int) (r : Bool) (w : World) (w1 : World) (h : Calls Tryz.prog 182 #[.iface x v, .iface 60 (.int .i64 b), .bool true] w fun e w' => e = .returned (.bool r) ∧ w' = w1) :
    Calls Tryz.prog 151 #[.iface x v, .iface 60 (.int .i64 b)] w fun e w' => e = .returned (.bool r) ∧ w' = w1 := by
  have hT := @run_callFunc_extern Tryz.prog 181 _ Extern.ReflectliteType.typeOf Tryz.func181 (by kernel_rfl) (by kernel_rfl) (by kernel_rfl) (by kernel_rfl)
  have hC := @run_callFunc_extern Tryz.prog 245 _ compEntry Tryz.func245 (by kernel_rfl) (by kernel_rfl) (by kernel_rfl) (by kernel_rfl)
  have tT := isTypeOf
  have cT := isComparable
  have mR := isMethodComparable
  have H := Lib.hid h
  clear h
  go_enter Tryz.func151, Tryz.ntmps151
  go_wp2_with (go_at_call 182; refine H.out.mono ?_; rintro e w' ⟨rfl, rfl⟩)
  go_ret
  exact ⟨rfl, rfl⟩
end Go.Proofs.YthonikkoafoohaaGreatDoor.Errs
