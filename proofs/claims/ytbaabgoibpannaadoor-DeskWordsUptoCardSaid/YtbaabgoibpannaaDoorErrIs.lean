/- errors.Is at the program's own errors: nil, a number (api.Errno), a number with a place (api.Fault), a desk's fault; the target a number. It answers whether the number is that one. No memory is written. -/
import Derived.Test.YtbaabgoibpannaaDoorProg
import Derived.WalkKit
import Derived.LaidEql
import Derived.Stop.Asserts
import Derived.RowKitTokens
import Derived.Lib.Hide
namespace Go.Proofs.YtbaabgoibpannaaDoor.Errs
open Go.RowKit Go.Extern.Stop Go.Stop Go.Extern

section
variable {P : Program} (w : World)
theorem run_equalIn_iface_int (d : Nat) {ti tn : TypeId} {ms : Array (String × TypeId)} {i : TypeInfo} {k : IntKind} (a b : Int)
    (hi : P.underlying ti = some (.interface ms)) (hn : P.underlying tn = some (.int k)) (hinfo : P.info? tn = some i) (hcomp : i.comparable = true) :
    (Op.equalIn (d + 2) ti (.iface tn (.int k a)) (.iface tn (.int k b))).run P w = .ok (a == b) w := by
  simp [Op.equalIn, run_underlying hi, run_underlying hn, typeInfo, hinfo, hcomp]
theorem run_eql_iface_int {ti tn : TypeId} {ms : Array (String × TypeId)} {i : TypeInfo} {k : IntKind} (a b : Int)
    (hi : P.underlying ti = some (.interface ms)) (hn : P.underlying tn = some (.int k)) (hinfo : P.info? tn = some i) (hcomp : i.comparable = true) :
    (binOp .eql ti (.iface tn (.int k a)) (.iface tn (.int k b))).run P w = .ok (.bool (a == b)) w := by
  simp only [binOp]
  simp [Op.equal, Op.maxDepth, run_equalIn_iface_int w 9998 a b hi hn hinfo hcomp]
end

theorem noComp : (Tryd.prog.info? 39).map (·.comparable) = some true := by kernel_rfl
theorem eqlNum (a b : Int) (w : World) : (binOp .eql 26 (.iface 39 (.int .i64 a)) (.iface 39 (.int .i64 b))).run Tryd.prog w = .ok (.bool (a == b)) w := by
  obtain ⟨i, hi, hc⟩ := Option.map_eq_some_iff.1 noComp
  exact run_eql_iface_int w a b Tryd.underlying26 Tryd.underlying39 hi hc
theorem isTypeOf (v : Value) (w : World) : (Extern.ReflectliteType.typeOf #[.iface 39 v]).run Tryd.prog w = .ok (.iface 69 (.agg #[.pointer (some ⟨1, 39, none⟩)])) w := by kernel_rfl
def compEntry : Array Value → Sem Value := Extern.ReflectliteType.method fun t => do Extern.Rtype.noPackHeld "Comparable" t; pure (.bool (← typeInfo t).comparable)
theorem isComparable (w : World) : (compEntry #[.agg #[.pointer (some ⟨1, 39, none⟩)]]).run Tryd.prog w = .ok (.bool true) w := by kernel_rfl
theorem isMethodComparable (v : Value) (w : World) : (Go.method (214) 69 v "Comparable").run Tryd.prog w = .ok (55, v) w := by kernel_rfl
/-! ### the method sets: no Is, no []error; a Fault and a fault unwrap to their number -/
theorem noIsN (v : Value) (xT : TypeId) (w : World) : (Instr.typeAssert (.iface 39 v) xT 81 true).run Tryd.prog w = .ok (.tuple #[.nilIface, .bool false]) w := run_typeAssert_lacksB Tryd.underlying81 (by kernel_rfl) (by kernel_rfl) v xT w
theorem noUnwrapN (v : Value) (xT : TypeId) (w : World) : (Instr.typeAssert (.iface 39 v) xT 76 true).run Tryd.prog w = .ok (.tuple #[.nilIface, .bool false]) w := run_typeAssert_lacksB Tryd.underlying76 (by kernel_rfl) (by kernel_rfl) v xT w
theorem noUnwrapsN (v : Value) (xT : TypeId) (w : World) : (Instr.typeAssert (.iface 39 v) xT 78 true).run Tryd.prog w = .ok (.tuple #[.nilIface, .bool false]) w := run_typeAssert_lacksB Tryd.underlying78 (by kernel_rfl) (by kernel_rfl) v xT w
theorem noIsF (v : Value) (xT : TypeId) (w : World) : (Instr.typeAssert (.iface 43 v) xT 81 true).run Tryd.prog w = .ok (.tuple #[.nilIface, .bool false]) w := run_typeAssert_lacksB Tryd.underlying81 (by kernel_rfl) (by kernel_rfl) v xT w
theorem hasUnwrapF (v : Value) (xT : TypeId) (w : World) : (Instr.typeAssert (.iface 43 v) xT 76 true).run Tryd.prog w = .ok (.tuple #[.iface 43 v, .bool true]) w := run_typeAssert_hasB Tryd.underlying76 (by kernel_rfl) v xT w
theorem methodUnwrapF (v : Value) (w : World) : (Go.method (214) 43 v "Unwrap").run Tryd.prog w = .ok (49, v) w := by kernel_rfl
theorem typesSize : Tryd.prog.types.size = 114 := by kernel_rfl

/-- (api.Fault).Unwrap: its number. -/
theorem unwrap_fault (n l a : Int) (w : World) : Calls Tryd.prog 49 #[.agg #[.int .i64 n, .int .i64 l, .int .i64 a]] w fun e w' => e = .returned (.iface 39 (.int .i64 n)) ∧ w' = w.alloc (.cells #[.int .i64 n, .int .i64 l, .int .i64 a] 43) := by
  go_enter Tryd.func49, Tryd.ntmps49
  go_wp2
  go_ret
  exact ⟨rfl, rfl⟩

theorem is_num (a b : Int) (w : World) : Calls Tryd.prog 25 #[.iface 39 (.int .i64 a), .iface 39 (.int .i64 b), .bool true] w fun e w' => e = .returned (.bool (a == b)) ∧ w' = w := by
  have nN := noIsN
  have uN := noUnwrapN
  have vN := noUnwrapsN
  by_cases hab : a = b
  · subst hab
    have heq := eqlNum a a w
    rw [show (a == a) = true from beq_self_eq_true a] at heq ⊢
    go_enter Tryd.func25, Tryd.ntmps25
    go_wp2
    refine wp_loop_rounds 1 ?_
    rw [rounds_succ]
    go_wp2
    go_ret
    exact ⟨rfl, rfl⟩
  · have heq := eqlNum a b w
    rw [show (a == b) = false from beq_eq_false_iff_ne.2 hab] at heq ⊢
    go_enter Tryd.func25, Tryd.ntmps25
    go_wp2
    refine wp_loop_rounds 1 ?_
    rw [rounds_succ]
    go_wp2
    go_ret
    exact ⟨rfl, rfl⟩

theorem is_fault (a l p b : Int) (w : World) : Calls Tryd.prog 25 #[.iface 43 (.agg #[.int .i64 a, .int .i64 l, .int .i64 p]), .iface 39 (.int .i64 b), .bool true] w fun e w' => e = .returned (.bool (a == b)) ∧ w' = w.alloc (.cells #[.int .i64 a, .int .i64 l, .int .i64 p] 43) := by
  have nN := noIsN
  have uN := noUnwrapN
  have vN := noUnwrapsN
  have nF := noIsF
  have uF := hasUnwrapF
  have mF := methodUnwrapF
  have hty := run_eql_iface_types (P := Tryd.prog) 43 39 (.agg #[.int .i64 a, .int .i64 l, .int .i64 p]) (.int .i64 b) Tryd.underlying26 (by decide)
  by_cases hab : a = b
  · subst hab
    have heq := eqlNum a a
    rw [show (a == a) = true from beq_self_eq_true a] at heq ⊢
    go_enter Tryd.func25, Tryd.ntmps25
    go_wp2
    refine wp_loop_rounds 2 ?_
    rw [rounds_succ]
    go_wp2
    rw [rounds_succ]
    go_wp2
    go_ret
    exact ⟨rfl, rfl⟩
  · have heq := eqlNum a b
    rw [show (a == b) = false from beq_eq_false_iff_ne.2 hab] at heq ⊢
    go_enter Tryd.func25, Tryd.ntmps25
    go_wp2
    refine wp_loop_rounds 2 ?_
    rw [rounds_succ]
    go_wp2
    rw [rounds_succ]
    go_wp2
    go_ret
    exact ⟨rfl, rfl⟩

/-! ### errors.Is -/
theorem Is_nil (b : Int) (w : World) : Calls Tryd.prog 18 #[.nilIface, .iface 39 (.int .i64 b)] w fun e w' => e = .returned (.bool false) ∧ w' = w := by
  have hn := run_eql_iface_nil_left (P := Tryd.prog) w 39 (.int .i64 b) Tryd.underlying26
  go_enter Tryd.func18, Tryd.ntmps18
  go_wp2
  go_ret
  exact ⟨rfl, rfl⟩
theorem Is_of (v : Value) (x : TypeId) (b : Int) (r : Bool) (w : World) (w1 : World) (h : Calls Tryd.prog 25 #[.iface x v, .iface 39 (.int .i64 b), .bool true] w fun e w' => e = .returned (.bool r) ∧ w' = w1) :
    Calls Tryd.prog 18 #[.iface x v, .iface 39 (.int .i64 b)] w fun e w' => e = .returned (.bool r) ∧ w' = w1 := by
  have hT := @run_callFunc_extern Tryd.prog 24 _ Extern.ReflectliteType.typeOf Tryd.func24 (by kernel_rfl) (by kernel_rfl) (by kernel_rfl) (by kernel_rfl)
  have hC := @run_callFunc_extern Tryd.prog 55 _ compEntry Tryd.func55 (by kernel_rfl) (by kernel_rfl) (by kernel_rfl) (by kernel_rfl)
  have tT := isTypeOf
  have cT := isComparable
  have mR := isMethodComparable
  have H := Lib.hid h
  clear h
  go_enter Tryd.func18, Tryd.ntmps18
  go_wp2_with (go_at_call 25; refine H.out.mono ?_; rintro e w' ⟨rfl, rfl⟩)
  go_ret
  exact ⟨rfl, rfl⟩
end Go.Proofs.YtbaabgoibpannaaDoor.Errs
