/- glossarykit.Num: the number of an error of the program's own: 0 of nil; c of a value of which errors.Is says that its number is c. -/
import Derived.Test.YthonikkoafoohaaGreatDoorErrIs
import Derived.Below
namespace Go.Proofs.YthonikkoafoohaaGreatDoor.Errs
open Go.RowKit Go.Extern.Stop Go.Stop Go.Extern

/-- errors.Is says of this value that its number is c. -/
def IsSays (v : Value) (c : Int) : Prop := ∀ (b : Int) (w : World), Calls Tryz.prog 151 #[v, .iface 60 (.int .i64 b)] w fun e w' => e = .returned (.bool (c == b)) ∧ Below w.heap.size w w'
theorem says_num (c : Int) : IsSays (.iface 60 (.int .i64 c)) c := fun b w => (Is_of _ _ b (c == b) w w (is_num c b w)).mono fun e w' ⟨h1, h2⟩ => ⟨h1, by rw [h2]; exact Below.refl _ _⟩
theorem says_fault (c l p : Int) : IsSays (.iface 83 (.agg #[.int .i64 c, .int .i64 l, .int .i64 p])) c := fun b w => (Is_of _ _ b (c == b) w _ (is_fault c l p b w)).mono fun e w' ⟨h1, h2⟩ => ⟨h1, by rw [h2]; exact (Below.refl _ _).alloc (Nat.le_refl _) _⟩

def found (c : Int) (k : Nat) : Int := if c < (k : Int) then c else 0
theorem found_none {c : Int} {k : Nat} (h : (k : Int) ≤ c) : found c k = 0 := by unfold found; rw [if_neg (by omega)]
theorem found_one {c : Int} {k : Nat} (h : c < (k : Int)) : found c k = c := by unfold found; rw [if_pos h]
theorem ret_i64 {a b : Int} (h : a = b) : Ending.returned (.int .i64 a) = .returned (.int .i64 b) := by rw [h]

theorem Num_nil (w : World) : Calls Tryz.prog 107 #[.nilIface] w fun e w' => e = .returned (.int .i64 0) ∧ w' = w := by
  go_enter Tryz.func107, Tryz.ntmps107
  go_wp2
  go_ret
  exact ⟨rfl, rfl⟩
set_option maxHeartbeats 400000 in
theorem Num_of (x : TypeId) (v0 : Value) (c : Int) (hs : IsSays (.iface x v0) c) (h1 : 1 ≤ c) (h2 : c ≤ 25) (w : World) :
    Calls Tryz.prog 107 #[.iface x v0] w fun e w' => e = .returned (.int .i64 c) ∧ Below w.heap.size w w' := by
  have H := Lib.hid hs
  clear hs
  go_enter Tryz.func107, Tryz.ntmps107
  go_wp2
  go_loopw [3, 4] (fun f n wr => ∃ (k : Nat) (u : Int), 1 ≤ k ∧ k ≤ 26 ∧ n = .int .i64 k ∧ f = .int .i64 u ∧ Hid (u = found c k) ∧ Below w.heap.size w wr) (fun _ n _ => 26 - (intOf n).toNat)
  case atStart => exact ⟨1, 0, by omega, by omega, rfl, rfl, Lib.hid (found_none (by omega)).symm, Below.refl _ _⟩
  case round =>
    obtain ⟨k, u, hk1, hk2, rfl, rfl, hu, hB⟩ := hrel
    by_cases hk : k ≤ 25
    · by_cases hc : c = (k : Int)
      · have hu0 : u = 0 := hu.out.trans (found_none (by omega))
        have hb : (c == (k : Int)) = true := beq_iff_eq.2 hc
        have Hc := Lib.hid hc
        clear hc hu
        subst hu0
        go_wp2_with (go_at_call 151; refine (H.out _ _).mono ?_; rintro e w' ⟨rfl, hB'⟩)
        go_roundw
        case rel => exact ⟨k + 1, k, by omega, by omega, by go_num, rfl, Lib.hid (by rw [found_one (by have := Hc.out; omega)]; exact Hc.out.symm), hB.trans (hB'.mono hB.size)⟩
        case measure => simp [intOf]; omega
      · have hb : (c == (k : Int)) = false := beq_eq_false_iff_ne.2 hc
        have Hc := Lib.hid hc
        clear hc
        go_wp2_with (go_at_call 151; refine (H.out _ _).mono ?_; rintro e w' ⟨rfl, hB'⟩)
        go_roundw
        case rel => exact ⟨k + 1, u, by omega, by omega, by go_num, rfl, Lib.hid (by
          rw [hu.out]
          have := Hc.out
          by_cases hlt : c < (k : Int)
          · rw [found_one hlt, found_one (by omega)]
          · rw [found_none (by omega), found_none (by omega)]), hB.trans (hB'.mono hB.size)⟩
        case measure => simp [intOf]; omega
    · have hu0 : u = c := hu.out.trans (found_one (by omega))
      clear hu
      subst hu0
      have hz : (u == (0 : Int)) = false := beq_eq_false_iff_ne.2 (by omega)
      go_wp2_with (go_at_call 151; refine (H.out _ _).mono ?_; rintro e w' ⟨rfl, hB'⟩)
      all_goals go_ret
      all_goals exact ⟨rfl, hB.trans (hB'.mono hB.size)⟩
end Go.Proofs.YthonikkoafoohaaGreatDoor.Errs
