/- cells: what is asked of a unit, of two, of a byte: the walks. -/
import Derived.Test.YtfmcadobpgpajaaGreatDoorCellSpec
import Derived.Test.YtfmcadobpgpajaaGreatDoorBTell
import Derived.Test.YtfmcadobpgpajaaGreatDoorShelf
import Derived.Shelf.Unicode.DecodeLast
import Derived.Deep.QuietTactic
import Derived.BigQuiet
namespace Go.Proofs.YtfmcadobpgpajaaGreatDoor.Cl
open Go Go.RowKit Go.Shelf Go.Proofs.YtfmcadobpgpajaaGreatDoor.Sp Go.Proofs.YtfmcadobpgpajaaGreatDoor.Ut Go.Proofs.YtfmcadobpgpajaaGreatDoor.Pr
set_option linter.unusedSimpArgs false
set_option linter.unusedVariables false

/-- The library's two tables. -/
def U8 (W : World) : Prop := Lib.Utf8Tabs 2 3 W
theorem U8.on {W W' : World} (h : U8 W) (hb : Below W.heap.size W W') : U8 W' :=
  ⟨fun c hc => (hb.cell (World.block_lt_of_cell? _ _ (h.1 c hc))).trans (h.1 c hc), fun i hi => ⟨(hb.cell (World.block_lt_of_cell? _ _ (h.2 i hi).1)).trans (h.2 i hi).1, (hb.cell (World.block_lt_of_cell? _ _ (h.2 i hi).2)).trans (h.2 i hi).2⟩⟩
theorem below_then' {w W W' : World} (h : Below w.heap.size w W) (hb : Below W.heap.size W W') : Below w.heap.size w W' := h.trans (hb.mono h.size)
theorem ret_bool {a b : Bool} (h : a = b) : Ending.returned (.bool a) = .returned (.bool b) := by rw [h]
theorem ret_i64 {a b : Int} (h : a = b) : Ending.returned (.int .i64 a) = .returned (.int .i64 b) := by rw [h]

/-! ### substrings -/
theorem ext_take (s : ByteArray) (k : Nat) : (s.extract 0 k).data.toList = s.data.toList.take k := by rw [Lib.extract_data]; simp
theorem ext_drop (s : ByteArray) (k : Nat) : (s.extract k s.size).data.toList = s.data.toList.drop k := by rw [Lib.extract_to_end]
theorem decode_ext (s : ByteArray) (k : Nat) (h : k < s.size) : Lib.decodeGo (s.extract k s.size) = Lib.decodeL (s.data.toList.drop k) := by
  have hz : (s.extract k s.size).size ≠ 0 := by
    rw [Lib.size_eq, ext_drop, List.length_drop, ← Lib.size_eq]; omega
  unfold Lib.decodeGo
  rw [if_neg hz, ← ext_drop, ← Lib.decodeL_drop _ 0, List.drop_zero]
/-- What is decoded from a byte on. -/
theorem dec_at (s : ByteArray) (k : Nat) (h : k < s.size) (W : World) (hU : U8 W) :
    Calls Tryz.prog 51 #[.string (s.extract k s.size)] W fun e w' => e = .returned (.tuple #[.int .i32 ((Lib.decodeL (s.data.toList.drop k)).1 : Nat), .int .i64 ((Lib.decodeL (s.data.toList.drop k)).2 : Nat)]) ∧ Below W.heap.size W w' := by
  have := Tryz.utf8_DecodeRuneInString (s.extract k s.size) W hU
  rwa [decode_ext s k h] at this
theorem last_at (s : ByteArray) (k : Nat) (W : World) (hs : s.size ≤ 1048576) (hk : k ≤ s.size) (hU : U8 W) :
    Calls Tryz.prog 42 #[.string (s.extract 0 k)] W fun e w' => e = .returned (.tuple #[.int .i32 ((Lib.decodeLastL (s.data.toList.take k)).1 : Nat), .int .i64 ((Lib.decodeLastL (s.data.toList.take k)).2 : Nat)]) ∧ Below W.heap.size W w' := by
  have := Tryz.utf8_DecodeLastRuneInString (s.extract 0 k) W (by rw [Lib.size_eq, ext_take, List.length_take, ← Lib.size_eq]; omega) hU
  rwa [ext_take] at this

/-! ### a unit -/
set_option maxHeartbeats 1000000 in
theorem hangul_calls (r : Int) (W : World) (h0 : -2147483648 ≤ r) (h1 : r ≤ 2147483647) : Calls Tryz.prog 55 #[.int .i32 r] W fun e w' => e = .returned (.int .i64 (hang r)) ∧ W = w' := by
  by_cases c : r < 44032 ∨ 55203 < r
  · rcases c with c | c
    · go_enter Tryz.func55, Tryz.ntmps55
      go_wp2
      all_goals go_ret
      all_goals refine ⟨ret_i64 ?_, rfl⟩
      all_goals unfold hang
      all_goals repeat' split
      all_goals first | rfl | omega
    · go_enter Tryz.func55, Tryz.ntmps55
      go_wp2
      all_goals go_ret
      all_goals refine ⟨ret_i64 ?_, rfl⟩
      all_goals unfold hang
      all_goals repeat' split
      all_goals first | rfl | omega
  · have c0 : ¬ r < 44032 := by omega
    have c1 : ¬ 55203 < r := by omega
    have c2 : 44032 ≤ r := by omega
    have c3 : r ≤ 55203 := by omega
    go_enter Tryz.func55, Tryz.ntmps55
    go_wp2
    all_goals go_ret
    all_goals refine ⟨ret_i64 ?_, rfl⟩
    all_goals unfold hang
    all_goals repeat' split
    all_goals first | rfl | omega | simp_all
set_option maxHeartbeats 1000000 in
theorem alone_calls (p : Nat) (D : PD) (r v : Int) (W : World) (H : PropsAt W.heap.size W p D) : Calls Tryz.prog 52 #[.pointer (some ⟨p, 0, none⟩), .int .i32 r, .int .i64 v] W fun e w' => e = .returned (.bool (aloneB D r v)) ∧ Below W.heap.size W w' := by
  have HK := Lib.hid (kind_calls p D r W H)
  clear H
  unfold aloneB
  generalize kindOf D r = k at *
  cases e1 : (r == 65533) <;> cases e2 : (v == 1) <;> cases e3 : (r == 13) <;> cases e4 : (r == 10)
  all_goals
    go_enter Tryz.func52, Tryz.ntmps52
    go_wp2_with (go_at_call 53; (refine HK.out.mono ?_); rintro e w1 ⟨rfl, hb⟩)
    go_ret
    first | exact ⟨rfl, Below.refl _ _⟩ | exact ⟨rfl, hb⟩

/-! ### two units -/
def joinV (a b : Int) (ta tb : Bool) (kb cb ka x y : Int) : Bool := if a = 13 ∧ b = 10 then true else if ta = true ∨ tb = true then false else if kb = 3 ∨ kb = 6 ∨ 0 < cb ∨ ka = 6 then true else hangJ x y
set_option maxHeartbeats 4000000 in
set_option maxRecDepth 100000 in
theorem joined_calls (p : Nat) (D : PD) (s : ByteArray) (k : Nat) (hs : s.size ≤ 1048576) (hk : k < s.size) (W : World) (H : PropsAt W.heap.size W p D) (hU : U8 W) :
    Calls Tryz.prog 26 #[.pointer (some ⟨p, 0, none⟩), .string s, .int .i64 (k : Int)] W fun e w' => e = .returned (.bool (jo D s.data.toList k)) ∧ Below W.heap.size W w' := by
  have HL := Lib.hid (last_at s k W hs (by omega) hU)
  have HD : Hid (∀ W', Below W.heap.size W W' → Calls Tryz.prog 51 #[.string (s.extract k s.size)] W' fun e w' => e = .returned (.tuple #[.int .i32 ((Lib.decodeL (s.data.toList.drop k)).1 : Nat), .int .i64 ((Lib.decodeL (s.data.toList.drop k)).2 : Nat)]) ∧ Below W'.heap.size W' w') := Lib.hid fun W' h => dec_at s k hk W' (hU.on h)
  unfold jo
  have ra := Lib.decodeLastL_rune (s.data.toList.take k)
  have rb := Lib.decodeL_rune (s.data.toList.drop k)
  generalize Lib.decodeLastL (s.data.toList.take k) = L1 at *
  generalize Lib.decodeL (s.data.toList.drop k) = L2 at *
  obtain ⟨a, v⟩ := L1
  obtain ⟨b, w⟩ := L2
  simp only at *
  have HA : Hid (∀ W', Below W.heap.size W W' → Calls Tryz.prog 52 #[.pointer (some ⟨p, 0, none⟩), .int .i32 (a : Int), .int .i64 (v : Int)] W' fun e w' => e = .returned (.bool (aloneB D a v)) ∧ Below W'.heap.size W' w') := Lib.hid fun W' h => alone_calls p D a v W' (H.on h)
  have HB : Hid (∀ W', Below W.heap.size W W' → Calls Tryz.prog 52 #[.pointer (some ⟨p, 0, none⟩), .int .i32 (b : Int), .int .i64 (w : Int)] W' fun e w' => e = .returned (.bool (aloneB D b w)) ∧ Below W'.heap.size W' w') := Lib.hid fun W' h => alone_calls p D b w W' (H.on h)
  have KA := Lib.hid (kindAt (r := (a : Int)) H rfl)
  have KB := Lib.hid (kindAt (r := (b : Int)) H rfl)
  have CB := Lib.hid (classAt (r := (b : Int)) H rfl)
  have GA := Lib.hid (fun W => hangul_calls (a : Int) W (by omega) (by omega))
  have GB := Lib.hid (fun W => hangul_calls (b : Int) W (by omega) (by omega))
  have hj : joinB D a v b w = joinV a b (aloneB D a v) (aloneB D b w) (kindOf D b) (classOf D b) (kindOf D a) (hang a) (hang b) := rfl
  rw [hj]
  clear hj H hU
  generalize aloneB D a v = ta at *
  generalize aloneB D b w = tb at *
  generalize kindOf D b = kb at *
  generalize classOf D b = cb at *
  generalize kindOf D a = ka at *
  generalize hang a = x at *
  generalize hang b = y at *
  clear ra rb
  generalize (a : Int) = az at *
  generalize (b : Int) = bz at *
  generalize (v : Int) = vz at *
  generalize (w : Int) = wz at *
  have hkz : (k : Int) ≤ (s.size : Int) := by omega
  have hbx := Below.refl W.heap.size W
  cases e1 : (az == 13) <;> cases e2 : (bz == 10) <;> cases ta <;> cases tb
  all_goals
    go_enter Tryz.func26, Tryz.ntmps26
    go_wp2_with (first
      | (go_at_call 42; (with_reducible refine HL.out.mono ?_); rintro e w1 ⟨rfl, hb⟩; replace hbx := below_then' hbx hb; clear hb)
      | (go_at_call 51; (with_reducible refine (HD.out _ hbx).mono ?_); rintro e w2 ⟨rfl, hb⟩; replace hbx := below_then' hbx hb; clear hb)
      | (go_at_call 52; (with_reducible refine (HA.out _ hbx).mono ?_); rintro e w3 ⟨rfl, hb⟩; replace hbx := below_then' hbx hb; clear hb HA)
      | (go_at_call 52; (with_reducible refine (HB.out _ hbx).mono ?_); rintro e w4 ⟨rfl, hb⟩; replace hbx := below_then' hbx hb; clear hb HB)
      | (go_at_call 53; (with_reducible refine (KB.out _ hbx).mono ?_); rintro e w5 ⟨rfl, hb⟩; replace hbx := below_then' hbx hb; clear hb KB)
      | (go_at_call 54; (with_reducible refine (CB.out _ hbx).mono ?_); rintro e w6 ⟨rfl, hb⟩; replace hbx := below_then' hbx hb; clear hb CB)
      | (go_at_call 53; (with_reducible refine (KA.out _ hbx).mono ?_); rintro e w7 ⟨rfl, hb⟩; replace hbx := below_then' hbx hb; clear hb KA)
      | (go_at_call 55; (with_reducible refine (GA.out _).mono ?_); rintro e w8 ⟨rfl, rfl⟩; clear GA)
      | (go_at_call 55; (with_reducible refine (GB.out _).mono ?_); rintro e w9 ⟨rfl, rfl⟩; clear GB))
    all_goals go_ret
    all_goals exact ⟨ret_bool (by simp_all [joinV, hangJ] <;> (intros; omega)), hbx⟩
end Go.Proofs.YtfmcadobpgpajaaGreatDoor.Cl
