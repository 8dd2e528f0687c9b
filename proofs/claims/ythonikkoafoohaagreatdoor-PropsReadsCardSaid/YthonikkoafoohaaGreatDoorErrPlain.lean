/- glossarykit.Plain: is an error's number this one, and tells it no place? Of nil and of any error of which errors.Is and errors.As are known. -/
import Derived.Test.YthonikkoafoohaaGreatDoorErrAs
import Derived.Laws.Rows
namespace Go.Proofs.YthonikkoafoohaaGreatDoor.Errs
open Go.RowKit Go.Extern.Stop Go.Stop Go.Extern

/-- What the library's variable errorType holds. -/
def Handle (w : World) : Prop := w.cell? ⟨2, 0, none⟩ = some (.iface 320 (.agg #[.pointer (some ⟨10, 29, none⟩)]))
theorem Handle.lt {w : World} (h : Handle w) : 2 < w.heap.size := by
  have hg : w.cell? ⟨2, 0, none⟩ = _ := h
  rcases Nat.lt_or_ge 2 w.heap.size with h | h
  · exact h
  · simp [World.cell?, Array.getElem?_eq_none h] at hg
theorem Handle.below {w w' : World} (h : Handle w) (hb : Below w.heap.size w w') : Handle w' := (hb.cell (p := ⟨2, 0, none⟩) h.lt).trans h
theorem Handle.alloc {w : World} (h : Handle w) (o : Obj) : Handle (w.alloc o) := h.below ((Below.refl _ _).alloc (Nat.le_refl _) o)
theorem Handle.drew {w : World} (h : Handle w) : Handle w.drew := h

/-- errors.As with a target of the caller's own says r of this error. -/
def AsSays (x : TypeId) (v : Value) (r : Bool) : Prop := ∀ (b : Nat) (w : World), Handle w → b < w.heap.size → w.heap[b]? = some (.cells #[.int .i64 0, .int .i64 0, .int .i64 0] 83) →
  Calls Tryz.prog 108 #[.iface x v, .iface 184 (.pointer (some ⟨b, 0, none⟩))] w fun e w' => e = .returned (.bool r) ∧ Below b w w'
theorem as_says_num (c : Int) : AsSays 60 (.int .i64 c) false := fun b w hg hb _ =>
  As_of _ _ _ w false _ hg ((as_num c _ _ _).mono fun e w' ⟨h1, h2⟩ => ⟨h1, by
    rw [h2]
    exact ((((Below.refl _ _).alloc (Nat.le_of_lt hb) _).alloc (by simp; omega) _).alloc (by simp; omega) _)⟩)

/-! ### glossarykit.Plain -/
theorem Plain_nil (n : Int) (w : World) : Calls Tryz.prog 56 #[.nilIface, .int .i64 n] w fun e w' => e = .returned (.bool ((0 : Int) == n)) ∧ Below w.heap.size w w' := by
  by_cases h : (0 : Int) = n
  · subst h
    go_enter Tryz.func56, Tryz.ntmps56
    go_wp2_with (go_at_call 107; refine (Num_nil _).mono ?_; rintro e w' ⟨rfl, rfl⟩)
    go_ret
    exact ⟨rfl, (Below.refl _ _).alloc (Nat.le_refl _) _⟩
  · have hb : ((0 : Int) == n) = false := beq_eq_false_iff_ne.2 h
    rw [hb]
    go_enter Tryz.func56, Tryz.ntmps56
    go_wp2_with (go_at_call 107; refine (Num_nil _).mono ?_; rintro e w' ⟨rfl, rfl⟩)
    go_ret
    exact ⟨rfl, (Below.refl _ _).alloc (Nat.le_refl _) _⟩
theorem Plain_of (x : TypeId) (v : Value) (c n : Int) (r : Bool) (hs : IsSays (.iface x v) c) (h1 : 1 ≤ c) (h2 : c ≤ 25) (ha : AsSays x v r) (w : World) (hg : Handle w) :
    Calls Tryz.prog 56 #[.iface x v, .int .i64 n] w fun e w' => e = .returned (.bool (c == n && !r)) ∧ Below w.heap.size w w' := by
  have HN : Hid (∀ w, Calls Tryz.prog 107 #[.iface x v] w fun e w' => e = .returned (.int .i64 c) ∧ Below w.heap.size w w') := Lib.hid fun w => Num_of x v c hs h1 h2 w
  have HA := Lib.hid ha
  have HG := Lib.hid hg
  clear hs ha hg
  by_cases h : c = n
  · have hb : (c == n) = true := beq_iff_eq.2 h
    rw [hb]
    have H := Lib.hid h
    clear h
    go_enter Tryz.func56, Tryz.ntmps56
    go_wp2_with (first
      | (go_at_call 107; refine (HN.out _).mono ?_; rintro e w1 ⟨rfl, hB⟩)
      | (go_at_call 108; refine (HA.out w.heap.size _ (Handle.below (Handle.alloc HG.out _) hB) (by have := hB.size; simp at this; omega) ((hB.block _ (by simp)).trans (heap_alloc_new w _))).mono ?_; rintro e w2 ⟨rfl, hB2⟩))
    cases r
    all_goals go_wp2
    all_goals go_ret
    all_goals exact ⟨rfl, (((Below.refl _ _).alloc (Nat.le_refl _) _).trans (hB.mono (by simp))).trans hB2⟩
  · have hb : (c == n) = false := beq_eq_false_iff_ne.2 h
    rw [hb]
    go_enter Tryz.func56, Tryz.ntmps56
    go_wp2_with (go_at_call 107; refine (HN.out _).mono ?_; rintro e w1 ⟨rfl, hB⟩)
    go_ret
    exact ⟨rfl, ((Below.refl _ _).alloc (Nat.le_refl _) _).trans (hB.mono (by simp))⟩
end Go.Proofs.YthonikkoafoohaaGreatDoor.Errs
