/- A desk's fault: errors.Is says its number, errors.As with an api.Fault as its target says no. -/
import Derived.Test.YtbaabgoibpannaaDoorErrPlain
namespace Go.Proofs.YtbaabgoibpannaaDoor.Errs
open Go.RowKit Go.Extern.Stop Go.Stop Go.Extern

theorem noIsD (v : Value) (xT : TypeId) (w : World) : (Instr.typeAssert (.iface 41 v) xT 81 true).run Tryd.prog w = .ok (.tuple #[.nilIface, .bool false]) w := run_typeAssert_lacksB Tryd.underlying81 (by kernel_rfl) (by kernel_rfl) v xT w
theorem noAsD (v : Value) (xT : TypeId) (w : World) : (Instr.typeAssert (.iface 41 v) xT 73 true).run Tryd.prog w = .ok (.tuple #[.nilIface, .bool false]) w := run_typeAssert_lacksB Tryd.underlying73 (by kernel_rfl) (by kernel_rfl) v xT w
theorem hasUnwrapD (v : Value) (xT : TypeId) (w : World) : (Instr.typeAssert (.iface 41 v) xT 76 true).run Tryd.prog w = .ok (.tuple #[.iface 41 v, .bool true]) w := run_typeAssert_hasB Tryd.underlying76 (by kernel_rfl) v xT w
theorem methodUnwrapD (v : Value) (w : World) : (Go.method 214 41 v "Unwrap").run Tryd.prog w = .ok (47, v) w := by kernel_rfl
theorem typeOfD (v : Value) (w : World) : (ReflectliteType.typeOf #[.iface 41 v]).run Tryd.prog w = .ok (.iface 69 (.agg #[.pointer (some ⟨1, 41, none⟩)])) w := by kernel_rfl
theorem assignableD (w : World) : (ReflectliteType.relation "AssignableTo" ReflectliteType.assignableTo #[.agg #[.pointer (some ⟨1, 41, none⟩)], .iface 69 (.agg #[.pointer (some ⟨1, 43, none⟩)])]).run Tryd.prog w = .ok (.bool false) w := by kernel_rfl

theorem is_desk (s : ByteArray) (a b : Int) (w : World) : Calls Tryd.prog 25 #[.iface 41 (.agg #[.string s, .int .i64 a]), .iface 39 (.int .i64 b), .bool true] w fun e w' => e = .returned (.bool (a == b)) ∧ w' = w.alloc (.cells #[.string s, .int .i64 a] 41) := by
  have nN := noIsN
  have uN := noUnwrapN
  have vN := noUnwrapsN
  have nF := noIsD
  have uF := hasUnwrapD
  have mF := methodUnwrapD
  have hty := run_eql_iface_types (P := Tryd.prog) 41 39 (.agg #[.string s, .int .i64 a]) (.int .i64 b) Tryd.underlying26 (by decide)
  by_cases hab : a = b
  · subst hab
    have heq := eqlNum a a
    rw [show (a == a) = true from beq_self_eq_true a] at heq ⊢
    go_enter Tryd.func25, Tryd.ntmps25
    go_wp2
    refine wp_loop_rounds 2 ?_
    rw [rounds_succ]
    go_wp2
    rw [rounds_succ]
    go_wp2
    go_ret
    exact ⟨rfl, rfl⟩
  · have heq := eqlNum a b
    rw [show (a == b) = false from beq_eq_false_iff_ne.2 hab] at heq ⊢
    go_enter Tryd.func25, Tryd.ntmps25
    go_wp2
    refine wp_loop_rounds 2 ?_
    rw [rounds_succ]
    go_wp2
    rw [rounds_succ]
    go_wp2
    go_ret
    exact ⟨rfl, rfl⟩
theorem says_desk (s : ByteArray) (c : Int) : IsSays (.iface 41 (.agg #[.string s, .int .i64 c])) c := fun b w => (Is_of _ _ b (c == b) w _ (is_desk s c b w)).mono fun e w' ⟨h1, h2⟩ => ⟨h1, by rw [h2]; exact (Below.refl _ _).alloc (Nat.le_refl _) _⟩

set_option maxHeartbeats 1000000 in
theorem as_desk (s : ByteArray) (c : Int) (t : Value) (a : Addr) (w : World) :
    Calls Tryd.prog 22 #[.iface 41 (.agg #[.string s, .int .i64 c]), t, .agg #[.pointer (some ⟨1, 46, none⟩), .pointer (some a), .int .u64 150], .iface 69 (.agg #[.pointer (some ⟨1, 43, none⟩)])] w
      fun e w' => e = .returned (.bool false) ∧ w' = (w.alloc (.cells #[.pointer (some ⟨1, 46, none⟩), .pointer (some a), .int .u64 150] 56)).alloc (.cells #[.string s, .int .i64 c] 41) := by
  have hT := @run_callFunc_extern Tryd.prog 24 _ ReflectliteType.typeOf Tryd.func24 (by kernel_rfl) (by kernel_rfl) (by kernel_rfl) (by kernel_rfl)
  have hA := @run_callFunc_extern Tryd.prog 54 _ (ReflectliteType.relation "AssignableTo" ReflectliteType.assignableTo) Tryd.func54 (by kernel_rfl) (by kernel_rfl) (by kernel_rfl) (by kernel_rfl)
  have tN := isTypeOf
  have tD := typeOfD
  have mA := methodAssignableTo
  have aN := assignableN
  have aD := assignableD
  have nA := noAsN
  have nD := noAsD
  have uN := noUnwrapN
  have vN := noUnwrapsN
  have uD := hasUnwrapD
  have mD := methodUnwrapD
  go_enter Tryd.func22, Tryd.ntmps22
  go_wp2
  refine wp_loop_rounds 2 ?_
  rw [rounds_succ]
  go_wp2
  rw [rounds_succ]
  go_wp2
  go_ret
  exact ⟨rfl, rfl⟩
theorem as_says_desk (s : ByteArray) (c : Int) : AsSays 41 (.agg #[.string s, .int .i64 c]) false := fun b w hg hb _ =>
  As_of _ _ _ w false _ hg ((as_desk s c _ _ _).mono fun e w' ⟨h1, h2⟩ => ⟨h1, by
    rw [h2]
    exact (((((Below.refl _ _).alloc (Nat.le_of_lt hb) _).alloc (by simp; omega) _).alloc (by simp; omega) _).alloc (by simp; omega) _)⟩)
end Go.Proofs.YtbaabgoibpannaaDoor.Errs
