/- normal.Cut; New, End: the walks. -/
import Derived.Test.YtikpkjpnehkbfaaGreatDoorNormDeco
namespace Go.Proofs.YtikpkjpnehkbfaaGreatDoor.Nw
open Go Go.RowKit Go.Shelf Go.Proofs.YtikpkjpnehkbfaaGreatDoor.Sp Go.Proofs.YtikpkjpnehkbfaaGreatDoor.Pr Go.Proofs.YtikpkjpnehkbfaaGreatDoor.Rf Go.Proofs.YtikpkjpnehkbfaaGreatDoor.Nm Go.Proofs.YtikpkjpnehkbfaaGreatDoor.Sb
set_option linter.unusedSimpArgs false
set_option linter.unusedVariables false

/-- May a row be cut at a place? -/
def cutB (D : PD) (l : List Int) (z : Int) : Bool := if z ≤ 0 ∨ (l.length : Int) ≤ z then (z == 0 || z == (l.length : Int)) else classOf D ((wholeOf D (l.getD z.toNat 0)).getD 0 0) == 0
theorem cut_out {D : PD} {l : List Int} {z : Int} (h : z ≤ 0 ∨ (l.length : Int) ≤ z) : cutB D l z = (z == 0 || z == (l.length : Int)) := by unfold cutB; rw [if_pos h]
theorem cut_in {D : PD} {l : List Int} {i : Nat} {x y : Int} (h0 : 0 < i) (hx : l[i]? = some x) (hy : (wholeOf D x)[0]? = some y) : cutB D l (i : Int) = (classOf D y == 0) := by
  have hi := (List.getElem?_eq_some_iff.1 hx).1
  unfold cutB
  rw [if_neg (by omega), Int.toNat_natCast]
  have e1 : l.getD i 0 = x := by simp [List.getD, hx]
  rw [e1]
  have e2 : (wholeOf D x).getD 0 0 = y := by simp only [List.getD, hy, Option.getD_some]
  rw [e2]
set_option maxHeartbeats 2000000 in
set_option maxRecDepth 100000 in
theorem cut_calls {w0 : World} {p : Nat} {D : PD} (H : PropsAt w0.heap.size w0 p D) (hgood : Nm.Good D) {W : World} {lv : Value} {l : List Int} (z : Int) (hb : Below w0.heap.size w0 W) (hr : ReadPts W lv l) (hl : l.length ≤ 1073741824) :
    Calls Tryz.prog 23 #[.pointer (some ⟨p, 0, none⟩), lv, .int .i64 z] W fun e W' => e = .returned (.bool (cutB D l z)) ∧ Below W.heap.size W W' := by
  obtain ⟨A, c, rfl, hc⟩ := read_addr hr
  by_cases h : z ≤ 0 ∨ (l.length : Int) ≤ z
  · have HE := Lib.hid (cut_out (D := D) h)
    generalize l.length = n at *
    clear hc hr
    by_cases h1 : z ≤ 0
    · obtain ⟨t1, ht1⟩ : ∃ t1, (z == 0) = t1 := ⟨_, rfl⟩
      obtain ⟨t2, ht2⟩ : ∃ t2, (z == (n : Int)) = t2 := ⟨_, rfl⟩
      rw [ht1, ht2] at HE
      clear h
      cases t1 <;> cases t2
      all_goals
        go_enter Tryz.func23, Tryz.ntmps23
        go_wp2
        go_ret
        exact ⟨by rw [HE.out]; rfl, Below.refl _ _⟩
    · have h2 : (n : Int) ≤ z := by omega
      have hn0 : ¬ z < (n : Int) := by omega
      obtain ⟨t2, ht2⟩ : ∃ t2, (z == (n : Int)) = t2 := ⟨_, rfl⟩
      have ht1 : (z == 0) = false := beq_eq_false_iff_ne.2 (by omega)
      rw [ht1, ht2] at HE
      clear h
      cases t2
      all_goals
        go_enter Tryz.func23, Tryz.ntmps23
        go_wp2
        go_ret
        exact ⟨by rw [HE.out]; rfl, Below.refl _ _⟩
  · obtain ⟨i, rfl⟩ : ∃ i : Nat, z = (i : Int) := ⟨z.toNat, by omega⟩
    have hi0 : 0 < i := by omega
    have hin : i < l.length := by omega
    obtain ⟨x, hx⟩ : ∃ x, l[i]? = some x := ⟨_, List.getElem?_eq_getElem hin⟩
    obtain ⟨b, off, rfl, cx⟩ := hc i x hx
    have h8 := (hgood.len x).1
    obtain ⟨y, hy⟩ : ∃ y, (wholeOf D x)[0]? = some y := ⟨_, List.getElem?_eq_getElem h8⟩
    have HE := Lib.hid (cut_in (D := D) hi0 hx hy)
    have HWC := Lib.hid (whole_of H hgood hb.size x W (.slice none 0 0) [] hb (Nat.le_refl _) ⟨rfl, .inl ⟨rfl, rfl⟩⟩ (by simp))
    have HWN : Hid (∃ m, (wholeOf D x).length = m + 1) := Lib.hid ⟨(wholeOf D x).length - 1, (Nat.sub_add_cancel h8).symm⟩
    have HY := Lib.hid hy
    have HCL := Lib.hid (classAt (r := y) H rfl)
    have HB := Lib.hid hb
    obtain ⟨cy, hcy⟩ : ∃ cy, classOf D y = cy := ⟨_, rfl⟩
    rw [hcy] at HCL HE
    have q1 : ¬ (i : Int) ≤ 0 := by omega
    have q2 : (i : Int) < (l.length : Int) := by omega
    have q3 : ¬ (l.length : Int) ≤ (i : Int) := by omega
    obtain ⟨t1, ht1⟩ : ∃ t1, (cy == 0) = t1 := ⟨_, rfl⟩
    rw [ht1] at HE
    generalize l.length = n at *
    clear h hc hr hx hy hb hcy h8 hin hl
    generalize wholeOf D x = ws at *
    go_enter Tryz.func23, Tryz.ntmps23
    go_wp2_with (first
      | (go_at_call 53; (with_reducible refine HWC.out.mono ?_); rintro e w2 ⟨v2, rfl, ho2, hm2⟩; rw [List.nil_append] at ho2; obtain ⟨m, hm⟩ := HWN.out; obtain ⟨g, c2, rfl⟩ := ownsRow_succ (k := m) (by have := ho2; rw [OwnPts, hm] at this; exact this); have cy2 := own_cells ho2 HY.out; have HB2 := Lib.hid (hm2.below (Nat.le_refl _) (fun g hg => by cases hg)); have hmz : (0 : Int) < (m : Int) + 1 := Int.lt_add_one_of_le (Int.natCast_nonneg m); clear ho2 hm2 hm)
      | (go_at_call 55; (with_reducible refine (HCL.out _ (bl_then HB.out HB2.out)).mono ?_); rintro e w3 ⟨rfl, hb3⟩; have HB3 := Lib.hid (bl_then HB2.out hb3); clear hb3))
    go_ret
    exact ⟨by rw [HE.out]; rfl, HB3.out⟩
/-- A stream. -/
def StrAt (X : Nat) (W : World) (p : Nat) (rv : Value) : Prop := W.heap[X]? = some (.cells #[.pointer (some ⟨p, 0, none⟩), rv] 85 (0, 0))
theorem new_calls {p : Nat} (W : World) : Calls Tryz.prog 27 #[.pointer (some ⟨p, 0, none⟩)] W fun e W' => e = .returned (.pointer (some ⟨W.heap.size, 0, none⟩)) ∧ StrAt W.heap.size W' p (.slice none 0 0) ∧ Below W.heap.size W W' ∧ W'.heap.size = W.heap.size + 1 := by
  go_enter Tryz.func27, Tryz.ntmps27
  go_wp2
  go_ret
  exact ⟨rfl, World.alloc_heap_new W _, (Below.refl _ W).alloc (Nat.le_refl _) _, by rw [World.size_alloc]⟩
theorem StrAt.cells {X : Nat} {W : World} {p : Nat} {rv : Value} (h : StrAt X W p rv) : W.cell? ⟨X, 0, none⟩ = some (.pointer (some ⟨p, 0, none⟩)) ∧ W.cell? ⟨X, 1, none⟩ = some rv ∧ W.frozen? ⟨X, 1, none⟩ = false := by
  unfold StrAt at h
  refine ⟨by rw [cell_of_row W X 0 _ _ (0, 0) h]; rfl, by rw [cell_of_row W X 1 _ _ (0, 0) h]; rfl, by simp [World.frozen?, h]⟩
theorem StrAt.set {X : Nat} {W : World} {p : Nat} {rv : Value} (h : StrAt X W p rv) (v : Value) : StrAt X (W.setCell ⟨X, 1, none⟩ v) p v := by
  unfold StrAt
  rw [heap_setCell_same W X 1 _ _ _ h]
  rfl
theorem end_stream {X p : Nat} {A : Option Addr} {n c : Nat} (W : World) (h : StrAt X W p (.slice A n c)) : Calls Tryz.prog 30 #[.pointer (some ⟨X, 0, none⟩)] W fun e W' => e = .returned (.slice A n c) ∧ StrAt X W' p (.slice none 0 0) ∧ W' = W.setCell ⟨X, 1, none⟩ (.slice none 0 0) := by
  obtain ⟨c0, c1, f1⟩ := h.cells
  have HS := Lib.hid (h.set (.slice none 0 0))
  clear h
  go_enter Tryz.func30, Tryz.ntmps30
  go_wp2
  go_ret
  exact ⟨rfl, HS.out, rfl⟩
end Go.Proofs.YtikpkjpnehkbfaaGreatDoor.Nw
