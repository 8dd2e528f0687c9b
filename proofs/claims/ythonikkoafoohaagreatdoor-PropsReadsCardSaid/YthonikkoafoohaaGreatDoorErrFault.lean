/- errors.As at an error of the type api.Fault: it is put into the target. -/
import Derived.Test.YthonikkoafoohaaGreatDoorErrPlain
import Derived.Laws.CopyOwn
import Derived.Laws.Tables
namespace Go.Proofs.YthonikkoafoohaaGreatDoor.Errs
open Go.RowKit Go.Extern.Stop Go.Stop Go.Extern

theorem setF (tb sb : Nat) (n l p : Int) (cur : Array Value) (W : World) (hc : cur.size = 3) (ht : W.heap[tb]? = some (.cells cur 83 (0, 0))) (hs : W.heap[sb]? = some (.cells #[.int .i64 n, .int .i64 l, .int .i64 p] 83 (0, 0))) :
    (ReflectliteValue.set #[.agg #[.pointer (some ⟨10, 83, none⟩), .pointer (some ⟨tb, 0, none⟩), .int .u64 409], .agg #[.pointer (some ⟨10, 83, none⟩), .pointer (some ⟨sb, 0, none⟩), .int .u64 153]]).run Tryz.prog W
      = .ok (.tuple #[]) (W.setRow tb #[.int .i64 n, .int .i64 l, .int .i64 p]) := by
  have hL := run_loadCells_list (P := Tryz.prog) W ⟨sb, 0, none⟩ [.int .i64 n, .int .i64 l, .int .i64 p] (fun j v hj => by
    rw [show ((⟨sb, 0, none⟩ : Addr).add j) = ⟨sb, j, none⟩ by (unfold Addr.add; split <;> simp_all)]
    unfold World.cell?
    simp only [hs]
    simpa using hj)
  have hS := run_storeCells_from (P := Tryz.prog) tb 83 [.int .i64 n, .int .i64 l, .int .i64 p] 0 cur W ht (by simp [hc]) (by simp [Value.oneCell'])
  simp only [List.length_cons, List.length_nil] at hL
  rw [rls]
  simp only [Sem.run_bind, partsFa, partsF, Result.andThen]
  simp [loadVar, storeVar, directF, Result.andThen, hL, ReflectliteValue.flagAddr]
  rw [show (Value.agg #[.int .i64 n, .int .i64 l, .int .i64 p]).cells = #[.int .i64 n, .int .i64 l, .int .i64 p] from rfl]
  simp at hS
  simp [hS]
set_option maxHeartbeats 4000000 in
set_option maxRecDepth 100000 in
theorem as_fault (n l p : Int) (tb : Nat) (a : Addr) (w : World) (ha : w.cell? a = some (.pointer (some ⟨tb, 0, none⟩))) (ht : w.heap[tb]? = some (.cells #[.int .i64 0, .int .i64 0, .int .i64 0] 83 (0, 0))) :
    Calls Tryz.prog 155 #[.iface 83 (.agg #[.int .i64 n, .int .i64 l, .int .i64 p]), .iface 184 (.pointer (some ⟨tb, 0, none⟩)), .agg #[.pointer (some ⟨10, 184, none⟩), .pointer (some a), .int .u64 150], .iface 320 (.agg #[.pointer (some ⟨10, 83, none⟩)])] w
      fun e w' => e = .returned (.bool true) ∧ w' = ((w.alloc (.cells #[.pointer (some ⟨10, 184, none⟩), .pointer (some a), .int .u64 150] 288)).alloc (.cells #[.int .i64 n, .int .i64 l, .int .i64 p] 83)).setRow tb #[.int .i64 n, .int .i64 l, .int .i64 p] := by
  have hT := @run_callFunc_extern Tryz.prog 181 _ ReflectliteType.typeOf Tryz.func181 (by kernel_rfl) (by kernel_rfl) (by kernel_rfl) (by kernel_rfl)
  have hA := @run_callFunc_extern Tryz.prog 244 _ (ReflectliteType.relation "AssignableTo" ReflectliteType.assignableTo) Tryz.func244 (by kernel_rfl) (by kernel_rfl) (by kernel_rfl) (by kernel_rfl)
  have tF := typeOfF
  have mA := methodAssignableTo
  have aF := assignableF
  have hE := @run_callFunc_extern Tryz.prog 183 _ (ReflectliteValue.method (ReflectliteValue.valueError "reflectlite.Value.Elem" 0) ReflectliteValue.elem) Tryz.func183 (by kernel_rfl) (by kernel_rfl) (by kernel_rfl) (by kernel_rfl)
  have hV := @run_callFunc_extern Tryz.prog 152 _ (fun args => ReflectliteValue.unpack (args.getD 0 (.tuple #[]))) Tryz.func152 (by kernel_rfl) (by kernel_rfl) (by kernel_rfl) (by kernel_rfl)
  have hS := @run_callFunc_extern Tryz.prog 184 _ ReflectliteValue.set Tryz.func184 (by kernel_rfl) (by kernel_rfl) (by kernel_rfl) (by kernel_rfl)
  have eV := elemV a ⟨tb, 0, none⟩ (w.alloc (.cells #[.pointer (some ⟨10, 184, none⟩), .pointer (some a), .int .u64 150] 288)) (by rw [World.cell?_alloc_lt _ _ _ (World.block_lt_of_cell? _ _ ha)]; exact ha)
  have vF := valueOfF n l p (w.alloc (.cells #[.pointer (some ⟨10, 184, none⟩), .pointer (some a), .int .u64 150] 288))
  have sF := setF tb (w.heap.size + 1) n l p #[.int .i64 0, .int .i64 0, .int .i64 0] ((w.alloc (.cells #[.pointer (some ⟨10, 184, none⟩), .pointer (some a), .int .u64 150] 288)).alloc (.cells #[.int .i64 n, .int .i64 l, .int .i64 p] 83)) rfl
    (by
      have hlt : tb < w.heap.size := (Array.getElem?_eq_some_iff.1 ht).1
      rw [Below.heap_alloc _ _ _ (by rw [World.size_alloc]; omega), Below.heap_alloc _ _ _ hlt]
      exact ht)
    (by
      have := heap_alloc_new (w.alloc (.cells #[.pointer (some ⟨10, 184, none⟩), .pointer (some a), .int .u64 150] 288)) (.cells #[.int .i64 n, .int .i64 l, .int .i64 p] 83)
      rwa [World.size_alloc] at this)
  go_enter Tryz.func155, Tryz.ntmps155
  go_wp2
  refine wp_loop_rounds 1 ?_
  rw [rounds_succ]
  go_wp2
  go_ret
  exact ⟨rfl, rfl⟩
/-- errors.As with a target of the caller's own: a Fault is put into it. -/
theorem as_says_fault (n l p : Int) (b : Nat) (w : World) (hg : Handle w) (hb : b < w.heap.size) (ht : w.heap[b]? = some (.cells #[.int .i64 0, .int .i64 0, .int .i64 0] 83 (0, 0))) :
    Calls Tryz.prog 108 #[.iface 83 (.agg #[.int .i64 n, .int .i64 l, .int .i64 p]), .iface 184 (.pointer (some ⟨b, 0, none⟩))] w fun e w' => e = .returned (.bool true) ∧ w'.heap[b]? = some (.cells #[.int .i64 n, .int .i64 l, .int .i64 p] 83 (0, 0)) ∧ Below b w w' := by
  refine As_of _ _ _ w true (fun w' => w'.heap[b]? = some (.cells #[.int .i64 n, .int .i64 l, .int .i64 p] 83 (0, 0)) ∧ Below b w w') hg ?_
  have h2 : ((w.alloc (.cells #[.pointer (some ⟨b, 0, none⟩)] 184)).alloc (.cells #[.pointer (some ⟨10, 184, none⟩), .pointer (some ⟨w.heap.size, 0, none⟩), .int .u64 150] 288)).heap[b]? = some (.cells #[.int .i64 0, .int .i64 0, .int .i64 0] 83 (0, 0)) := by
    rw [Below.heap_alloc _ _ _ (by rw [World.size_alloc]; omega), Below.heap_alloc _ _ _ hb]
    exact ht
  refine (as_fault n l p b ⟨w.heap.size, 0, none⟩ _ (by simp) h2).mono fun e w' ⟨h3, h4⟩ => ⟨h3, ?_⟩
  subst h4
  refine ⟨setRow_heap _ _ _ _ _ _ (by
    rw [Below.heap_alloc _ _ _ (by simp; omega), Below.heap_alloc _ _ _ (by simp; omega)]
    exact h2), ?_⟩
  exact below_setRow (((((Below.refl _ _).alloc (Nat.le_of_lt hb) _).alloc (by simp; omega) _).alloc (by simp; omega) _).alloc (by simp; omega) _) (Nat.le_refl _) _
end Go.Proofs.YthonikkoafoohaaGreatDoor.Errs
