/- The reference's points and rows of points out of words: the walks. -/
import Derived.Test.YtikpkjpnehkbfaaGreatDoorRefNum
import Derived.Deep.RegionHeld3
import Derived.IntWalk
namespace Go.Proofs.YtikpkjpnehkbfaaGreatDoor.Rf
open Go Go.RowKit Go.Shelf Go.Proofs.YtikpkjpnehkbfaaGreatDoor.Sp
set_option linter.unusedSimpArgs false

theorem numGo_hex : ∀ (l : Bytes) (n : Nat), numGo 16 l n = hexGo l n
  | [], n => rfl
  | c :: l, n => by
    simp only [numGo, hexGo]
    cases hv : hexVal c with
    | none => rfl
    | some d => simp only [if_pos (hex_lt hv)]; exact numGo_hex l _
theorem numB_of (l : Bytes) : numB 16 l 4 6 = match numberOf l with | some n => n | none => -1 := by
  unfold numB numberOf
  by_cases h : 4 ≤ l.length ∧ l.length ≤ 6
  · rw [if_pos h, if_pos h, numGo_hex]
    cases hexGo l 0 <;> rfl
  · rw [if_neg h, if_neg h]
theorem numberOf_pos {l : Bytes} {n : Int} (h : numberOf l = some n) : 0 ≤ n := by
  unfold numberOf at h
  split at h
  · obtain ⟨m, _, rfl⟩ := Option.map_eq_some_iff.1 h
    exact Int.natCast_nonneg m
  · cases h
abbrev NumAt (s : ByteArray) (v : Int) : Prop := ∀ w : World, Calls Tryz.prog 128 #[.string s, .int .i64 16, .int .i64 4, .int .i64 6] w fun e w' => e = .returned (.int .i64 v) ∧ Below w.heap.size w w'
theorem num_some {s : ByteArray} {n : Int} (h : numberOf s.data.toList = some n) : NumAt s n := fun w => (number16_calls s 4 w).mono fun e w' ⟨h1, h2⟩ => ⟨by rw [h1, numB_of, h], h2⟩
theorem num_none {s : ByteArray} (h : numberOf s.data.toList = none) : NumAt s (-1) := fun w => (number16_calls s 4 w).mono fun e w' ⟨h1, h2⟩ => ⟨by rw [h1, numB_of, h], h2⟩
theorem point_ok {s : ByteArray} {n : Int} (h : pointOf s.data.toList = .ok n) (w : World) : Calls Tryz.prog 129 #[.string s] w fun e w' => e = .returned (.tuple #[.int .i64 n, .int .i64 0]) ∧ Below w.heap.size w w' := by
  unfold pointOf at h
  cases hn : numberOf s.data.toList with
  | none => rw [hn] at h; cases h
  | some m =>
    rw [hn] at h
    simp only at h
    by_cases hc : isChar m = true
    · rw [if_pos hc] at h
      injection h with h
      subst h
      have c1 := Lib.hid (num_some hn)
      have hp := numberOf_pos hn
      have c2 : Hid (∀ W, Calls Tryz.prog 100 #[.int .i64 m] W fun e w' => e = .returned (.bool true) ∧ w' = W) := Lib.hid (fun W => by rw [← hc]; exact char_calls m W)
      clear hn hc
      go_enter Tryz.func129, Tryz.ntmps129
      go_wp2_with (first
        | (go_at_call 128; refine (c1.out _).mono ?_; rintro e w1 ⟨rfl, hb⟩)
        | (go_at_call 100; refine (c2.out _).mono ?_; rintro e w2 ⟨rfl, hw⟩; subst w2))
      go_ret2
      exact ⟨rfl, hb⟩
    · rw [if_neg hc] at h; cases h
theorem point_err {s : ByteArray} {k : Int} (h : pointOf s.data.toList = .error k) (w : World) : Calls Tryz.prog 129 #[.string s] w fun e w' => e = .returned (.tuple #[.int .i64 0, .int .i64 k]) ∧ Below w.heap.size w w' := by
  unfold pointOf at h
  cases hn : numberOf s.data.toList with
  | none =>
    rw [hn] at h
    injection h with h
    subst h
    have c1 := Lib.hid (num_none hn)
    clear hn
    go_enter Tryz.func129, Tryz.ntmps129
    go_wp2_with (go_at_call 128; refine (c1.out _).mono ?_; rintro e w1 ⟨rfl, hb⟩)
    go_ret2
    exact ⟨rfl, hb⟩
  | some m =>
    rw [hn] at h
    simp only at h
    by_cases hc : isChar m = true
    · rw [if_pos hc] at h; cases h
    · rw [if_neg hc] at h
      injection h with h
      subst h
      have c1 := Lib.hid (num_some hn)
      have hp := numberOf_pos hn
      have hc' : isChar m = false := by simpa using hc
      have c2 : Hid (∀ W, Calls Tryz.prog 100 #[.int .i64 m] W fun e w' => e = .returned (.bool false) ∧ w' = W) := Lib.hid (fun W => by rw [← hc']; exact char_calls m W)
      clear hn hc hc'
      go_enter Tryz.func129, Tryz.ntmps129
      go_wp2_with (first
        | (go_at_call 128; refine (c1.out _).mono ?_; rintro e w1 ⟨rfl, hb⟩)
        | (go_at_call 100; refine (c2.out _).mono ?_; rintro e w2 ⟨rfl, hw⟩; subst w2))
      go_ret2
      exact ⟨rfl, hb⟩

/-! ### ends -/
theorem ext_toList (s : ByteArray) (a b : Nat) : (s.extract a b).data.toList = (s.data.toList.drop a).take (b - a) := by
  rw [ByteArray.data_extract, Array.toList_extract, List.extract_eq_take_drop]
theorem drop_two (s : ByteArray) (k : Nat) (h : k + 1 < s.size) : s.data.toList.drop k = s[k] :: s[k + 1] :: s.data.toList.drop (k + 2) := by
  have e : s.data.toList.length = s.size := (Lib.size_eq s).symm
  rw [List.drop_eq_getElem_cons (by omega), List.drop_eq_getElem_cons (i := k + 1) (by omega)]
  rfl
theorem dots_hit {s : ByteArray} {k : Nat} (h : k + 1 < s.size) (hq : ((s.extract k (k + 2)).toList == [46, 46]) = true) : dots (s.data.toList.drop k) = some ([], s.data.toList.drop (k + 2)) := by
  rw [beq_iff_eq, Lib.toList_data, ext_toList, drop_two s k h, show k + 2 - k = 2 by omega] at hq
  simp only [List.take_succ_cons, List.take_zero, List.cons.injEq, and_true] at hq
  rw [drop_two s k h, hq.1, hq.2]
  rfl
theorem dots_miss {s : ByteArray} {k : Nat} (h : k + 1 < s.size) (hq : ((s.extract k (k + 2)).toList == [46, 46]) = false) : dots (s.data.toList.drop k) = (dots (s.data.toList.drop (k + 1))).map fun p => (s[k] :: p.1, p.2) := by
  rw [beq_eq_false_iff_ne, Lib.toList_data, ext_toList, drop_two s k h, show k + 2 - k = 2 by omega] at hq
  simp only [List.take_succ_cons, List.take_zero, ne_eq, List.cons.injEq, and_true] at hq
  have e : s.data.toList.length = s.size := (Lib.size_eq s).symm
  have e2 : s.data.toList.drop k = s[k] :: s.data.toList.drop (k + 1) := by rw [List.drop_eq_getElem_cons (by omega)]; rfl
  have e3 : s.data.toList.drop (k + 1) = s[k + 1] :: s.data.toList.drop (k + 2) := by rw [List.drop_eq_getElem_cons (by omega)]; rfl
  rw [e2]
  conv => lhs; unfold dots
  split
  · rename_i l' e'
    rw [e3] at e'
    simp only [List.cons.injEq] at e'
    exact absurd ⟨e'.1, e'.2.1⟩ hq
  · rename_i e'; injection e' with e1 e2; subst e1; subst e2; rfl
  · rename_i e'; cases e'
theorem dots_short : ∀ l : Bytes, l.length ≤ 1 → dots l = none
  | [], _ => rfl
  | [c], _ => by
    unfold dots
    split
    · rename_i e; simp at e
    · rename_i e; injection e with e1 e2; subst e2; rfl
    · rfl
  | _ :: _ :: _, h => by simp at h
def endsV : Except Int (Int × Int) → Value
  | .ok p => .tuple #[.int .i64 p.1, .int .i64 p.2, .int .i64 0]
  | .error e => .tuple #[.int .i64 0, .int .i64 0, .int .i64 e]
def twoOf (a b : Bytes) : Except Int (Int × Int) :=
  match numberOf a, numberOf b with
  | some x, some y => if isChar x && isChar y then (if y < x then .error 1 else .ok (x, y)) else .error 8
  | _, _ => .error 11
theorem span_dots {l a b : Bytes} (h : dots l = some (a, b)) : spanOf l = twoOf a b := by unfold spanOf twoOf; rw [h]; rfl
theorem span_none {l : Bytes} (h : dots l = none) : spanOf l = (match pointOf l with | .ok n => .ok (n, n) | .error e => .error e) := by
  unfold spanOf pointOf
  rw [h]
  simp only
  cases numberOf l with
  | none => rfl
  | some n =>
    simp only
    by_cases hc : isChar n = true
    · simp [hc]
    · have : isChar n = false := by simpa using hc
      simp [this]
theorem ends_cases (a b : ByteArray) : ∃ va vb A B N : Int, NumAt a va ∧ NumAt b vb ∧ endsV (twoOf a.data.toList b.data.toList) = .tuple #[.int .i64 A, .int .i64 B, .int .i64 N] ∧
    ((va < 0 ∧ A = 0 ∧ B = 0 ∧ N = 11) ∨ (0 ≤ va ∧ vb < 0 ∧ A = 0 ∧ B = 0 ∧ N = 11) ∨ (0 ≤ va ∧ 0 ≤ vb ∧ isChar va = false ∧ A = 0 ∧ B = 0 ∧ N = 8) ∨ (0 ≤ va ∧ 0 ≤ vb ∧ isChar va = true ∧ isChar vb = false ∧ A = 0 ∧ B = 0 ∧ N = 8) ∨
      (0 ≤ va ∧ 0 ≤ vb ∧ isChar va = true ∧ isChar vb = true ∧ vb < va ∧ A = 0 ∧ B = 0 ∧ N = 1) ∨ (0 ≤ va ∧ 0 ≤ vb ∧ isChar va = true ∧ isChar vb = true ∧ va ≤ vb ∧ A = va ∧ B = vb ∧ N = 0)) := by
  unfold twoOf
  cases ha : numberOf a.data.toList with
  | none =>
    cases hb : numberOf b.data.toList with
    | none => exact ⟨-1, -1, 0, 0, 11, num_none ha, num_none hb, rfl, .inl ⟨by omega, rfl, rfl, rfl⟩⟩
    | some y => exact ⟨-1, y, 0, 0, 11, num_none ha, num_some hb, rfl, .inl ⟨by omega, rfl, rfl, rfl⟩⟩
  | some x =>
    have hx := numberOf_pos ha
    cases hb : numberOf b.data.toList with
    | none => exact ⟨x, -1, 0, 0, 11, num_some ha, num_none hb, rfl, .inr (.inl ⟨hx, by omega, rfl, rfl, rfl⟩)⟩
    | some y =>
      have hy := numberOf_pos hb
      by_cases c1 : isChar x = true
      · by_cases c2 : isChar y = true
        · by_cases hl : y < x
          · exact ⟨x, y, 0, 0, 1, num_some ha, num_some hb, by simp [c1, c2, hl, endsV], .inr (.inr (.inr (.inr (.inl ⟨hx, hy, c1, c2, hl, rfl, rfl, rfl⟩))))⟩
          · exact ⟨x, y, x, y, 0, num_some ha, num_some hb, by simp [c1, c2, hl, endsV], .inr (.inr (.inr (.inr (.inr ⟨hx, hy, c1, c2, by omega, rfl, rfl, rfl⟩))))⟩
        · have c2' : isChar y = false := by simpa using c2
          exact ⟨x, y, 0, 0, 8, num_some ha, num_some hb, by simp [c2', endsV], .inr (.inr (.inr (.inl ⟨hx, hy, c1, c2', rfl, rfl, rfl⟩)))⟩
      · have c1' : isChar x = false := by simpa using c1
        exact ⟨x, y, 0, 0, 8, num_some ha, num_some hb, by simp [c1', endsV], .inr (.inr (.inl ⟨hx, hy, c1', rfl, rfl, rfl⟩))⟩
theorem point_cases (s : ByteArray) : ∃ n no : Int, (∀ w : World, Calls Tryz.prog 129 #[.string s] w fun e w' => e = .returned (.tuple #[.int .i64 n, .int .i64 no]) ∧ Below w.heap.size w w') ∧
    endsV (match pointOf s.data.toList with | .ok n => .ok (n, n) | .error e => .error e) = .tuple #[.int .i64 n, .int .i64 n, .int .i64 no] := by
  cases h : pointOf s.data.toList with
  | ok n => exact ⟨n, 0, point_ok h, rfl⟩
  | error e => exact ⟨0, e, point_err h, rfl⟩
theorem below_drawn {w W W' : World} (h : Below w.heap.size w W) (hb : Below W.drew.heap.size W.drew W') : Below w.heap.size w W' := h.drew.trans (hb.mono h.drew.size)
theorem below_then {w W W' : World} (h : Below w.heap.size w W) (hb : Below W.heap.size W W') : Below w.heap.size w W' := h.trans (hb.mono h.size)
set_option maxHeartbeats 8000000 in
set_option maxRecDepth 100000 in
theorem ends_calls (s : ByteArray) (hs : s.size ≤ 1048576) (w : World) : Calls Tryz.prog 127 #[.string s] w fun e w' => e = .returned (endsV (spanOf s.data.toList)) ∧ Below w.heap.size w w' := by
  go_enter Tryz.func127, Tryz.ntmps127
  go_wp2
  go_loop [5] (fun vi => ∃ k : Nat, vi = .int .i64 k ∧ k ≤ s.size ∧ Hid (dots s.data.toList = (dots (s.data.toList.drop k)).map fun p => (s.data.toList.take k ++ p.1, p.2))) (fun vi => s.size - (intOf vi).toNat)
  case atStart => exact ⟨0, rfl, by omega, Lib.hid (by simp)⟩
  case round =>
    obtain ⟨k, rfl, hk, HI⟩ := hrel
    by_cases hlt : k + 1 < s.size
    · cases hq : ((s.extract k (k + 2)).toList == [46, 46]) with
      | false =>
        have HN : Hid (dots s.data.toList = (dots (s.data.toList.drop (k + 1))).map fun p => (s.data.toList.take (k + 1) ++ p.1, p.2)) := Lib.hid (by
          rw [HI.out, dots_miss hlt hq, take_at' s k (by omega)]
          cases dots (s.data.toList.drop (k + 1)) with
          | none => rfl
          | some p => simp)
        clear HI
        go_wp2
        go_round
        case rel => exact ⟨k + 1, by go_num, by omega, HN⟩
        case measure => simp [intOf]; omega
      | true =>
        have hd : dots s.data.toList = some ((s.extract 0 k).data.toList, (s.extract (k + 2) s.size).data.toList) := by
          rw [HI.out, dots_hit hlt hq, ext_toList, ext_toList]
          have e : s.data.toList.length = s.size := (Lib.size_eq s).symm
          simp [List.take_of_length_le, e]
        obtain ⟨va, vb, A, B, N, n1, n2, hv, hcases⟩ := ends_cases (s.extract 0 k) (s.extract (k + 2) s.size)
        rw [← span_dots hd] at hv
        have HV := Lib.hid hv
        have c1 := Lib.hid n1
        have c2 := Lib.hid n2
        have hbx := Below.refl w.heap.size w
        clear hd hv n1 n2 HI
        have f1 : IntKind.i64.wrap ((k : Int) + 2) = (k : Int) + 2 := IntWalk.i64_in _ (by omega)
        have f2 : (0 : Int) ≤ (k : Int) + 2 := by omega
        have f3 : ((k : Int) + 2).toNat = k + 2 := by omega
        have f4 : (k : Int) + 2 ≤ (s.size : Int) := by omega
        have f5 : k + 2 ≤ s.size := by omega
        go_wp2
        go_region_held3 (fun _ => True) (go_keep) ((first
          | (go_at_call 128; (with_reducible refine (c1.out _).mono ?_); rintro e w1 ⟨rfl, hb⟩; have hby : Below w.heap.size w w1 := (by first | exact below_drawn hbx hb | exact below_then hbx hb); clear hbx hb; have hbx := hby; clear hby)
          | (go_at_call 128; (with_reducible refine (c2.out _).mono ?_); rintro e w1 ⟨rfl, hb⟩; have hby : Below w.heap.size w w1 := (by first | exact below_drawn hbx hb | exact below_then hbx hb); clear hbx hb; have hbx := hby; clear hby)))
        clear f1 f2 f3 f4 f5 hq
        rcases hcases with ⟨z1, rfl, rfl, rfl⟩ | ⟨z1, z2, rfl, rfl, rfl⟩ | ⟨z1, z2, z3, rfl, rfl, rfl⟩ | ⟨z1, z2, z3, z4, rfl, rfl, rfl⟩ | ⟨z1, z2, z3, z4, z5, rfl, rfl, rfl⟩ | ⟨z1, z2, z3, z4, z5, rfl, rfl, rfl⟩
        all_goals
          go_wp2_with (go_at_call 100; (with_reducible refine (char_calls _ _).mono ?_); rintro e w2 ⟨rfl, hw⟩; subst w2)
          go_ret3
          rw [HV.out]
          exact ⟨rfl, hbx⟩
    · obtain ⟨n, no, hp, hv⟩ := point_cases s
      have hd : dots s.data.toList = none := by
        rw [HI.out, dots_short _ (by have e : s.data.toList.length = s.size := (Lib.size_eq s).symm
                                     rw [List.length_drop]; omega)]
        rfl
      rw [← span_none hd] at hv
      have HV := Lib.hid hv
      have HP := Lib.hid hp
      clear hd hv hp HI
      go_wp2_with (go_at_call 129; refine (HP.out _).mono ?_; rintro e w1 ⟨rfl, hb⟩)
      go_ret3
      rw [HV.out]
      exact ⟨rfl, hb⟩
end Go.Proofs.YtikpkjpnehkbfaaGreatDoor.Rf
