/- The law CellsBeside: the walk. -/
import Derived.Test.YtfmcadobpgpajaaGreatDoorCellBoth
import Derived.Test.YtfmcadobpgpajaaGreatDoorCellBeside
import Derived.Lib.OthersKept
import Derived.Laws.RangeAny
namespace Go.Proofs.YtfmcadobpgpajaaGreatDoor.Cl
open Go Go.RowKit Go.Shelf Go.Proofs.YtfmcadobpgpajaaGreatDoor.Sp Go.Proofs.YtfmcadobpgpajaaGreatDoor.Ut Go.Proofs.YtfmcadobpgpajaaGreatDoor.Pr Go.Proofs.YtfmcadobpgpajaaGreatDoor.Rf
set_option linter.unusedSimpArgs false
set_option linter.unusedVariables false

abbrev NoneAt (f : ByteArray) (w : World) : Prop := Calls Tryz.prog 8 #[.string f] w fun e w' => e = .returned (.tuple #[.pointer none, .pointer none, .bool false]) ∧ Below w.heap.size w w'
abbrev SomeAt (f : ByteArray) (D : PD) (w : World) : Prop := Calls Tryz.prog 8 #[.string f] w fun e w' => ∃ p q st, e = .returned (.tuple #[.pointer (some ⟨p, 0, none⟩), .pointer (some ⟨q, 0, none⟩), .bool true]) ∧ PropsAt w'.heap.size w' p D ∧ RefAt q w' st ∧ st.d = D ∧ Below w.heap.size w w'
theorem both_cases (f : ByteArray) {m : Int} {ev : Value} (w : World) (hv : Vars w.heap.size w m ev) (hkd : KindsAt w) : NoneAt f w ∨ ∃ D, parse f.data.toList = .ok D ∧ SomeAt f D w := by
  by_cases h : 4096 < (f.size : Int)
  · exact .inl (both_long f w h)
  · cases hp : parse f.data.toList with
    | error x => exact .inl (both_bad f w hv hkd (by omega) (k := x.1) (o := x.2) hp)
    | ok D => exact .inr ⟨D, rfl, both_good f w hv hkd (by omega) hp⟩
abbrev WorksAt (w : World) : Prop := ∀ W, Below w.heap.size w W → Calls Tryz.prog 9 #[] W fun e w' => e = .returned (.bool true) ∧ Below W.heap.size W w'
theorem worksAt {m : Int} {ev : Value} {w : World} (hv : Vars w.heap.size w m ev) (hU : U8 w) : WorksAt w := fun W h => works_calls W (hv.on h) (hU.on h)
set_option maxHeartbeats 1000000 in
theorem beside_none (f a s b : ByteArray) (w : World) (hB : NoneAt f w) (hW : WorksAt w) : Calls Tryz.prog 3 #[.string f, .string a, .string s, .string b] w fun e w' => e = .returned (.bool true) ∧ Below w.heap.size w w' := by
  have HB := Lib.hid hB
  have HW := Lib.hid hW
  clear hB hW
  go_enter Tryz.func3, Tryz.ntmps3
  go_wp2_with (first
    | (go_at_call 8; (with_reducible refine HB.out.mono ?_); rintro e w1 ⟨rfl, hb⟩)
    | (go_at_call 9; (with_reducible refine (HW.out _ hb).mono ?_); rintro e w2 ⟨rfl, hb2⟩))
  go_ret
  exact ⟨rfl, below_then' hb hb2⟩
set_option maxHeartbeats 2000000 in
theorem beside_long (f a s b : ByteArray) (D : PD) (w : World) (hB : SomeAt f D w) (hW : WorksAt w) (h : (4096 : Int) < s.size ∨ (4096 : Int) < a.size ∨ (4096 : Int) < b.size) : Calls Tryz.prog 3 #[.string f, .string a, .string s, .string b] w fun e w' => e = .returned (.bool true) ∧ Below w.heap.size w w' := by
  have HB := Lib.hid hB
  have HW := Lib.hid hW
  clear hB hW
  by_cases h1 : (4096 : Int) < s.size
  · clear h
    go_enter Tryz.func3, Tryz.ntmps3
    go_wp2_with (first
      | (go_at_call 8; (with_reducible refine HB.out.mono ?_); rintro e w1 ⟨p, q, st, rfl, -, -, -, hb⟩)
      | (go_at_call 9; (with_reducible refine (HW.out _ hb).mono ?_); rintro e w2 ⟨rfl, hb2⟩))
    go_ret
    exact ⟨rfl, below_then' hb hb2⟩
  · by_cases h2 : (4096 : Int) < a.size
    · clear h
      go_enter Tryz.func3, Tryz.ntmps3
      go_wp2_with (first
        | (go_at_call 8; (with_reducible refine HB.out.mono ?_); rintro e w1 ⟨p, q, st, rfl, -, -, -, hb⟩)
        | (go_at_call 9; (with_reducible refine (HW.out _ hb).mono ?_); rintro e w2 ⟨rfl, hb2⟩))
      go_ret
      exact ⟨rfl, below_then' hb hb2⟩
    · have h3 : (4096 : Int) < b.size := by omega
      clear h
      go_enter Tryz.func3, Tryz.ntmps3
      go_wp2_with (first
        | (go_at_call 8; (with_reducible refine HB.out.mono ?_); rintro e w1 ⟨p, q, st, rfl, -, -, -, hb⟩)
        | (go_at_call 9; (with_reducible refine (HW.out _ hb).mono ?_); rintro e w2 ⟨rfl, hb2⟩))
      go_ret
      exact ⟨rfl, below_then' hb hb2⟩
/-- The framed text. -/
def fr (a s b : ByteArray) : ByteArray := a ++ ⟨#[33]⟩ ++ s ++ ⟨#[33]⟩ ++ b
theorem fr_list (a s b : ByteArray) : (fr a s b).data.toList = framed a.data.toList s.data.toList b.data.toList := by
  simp [fr, framed, ByteArray.data_append]
theorem fr_size (a s b : ByteArray) : (fr a s b).size = a.size + 1 + s.size + 1 + b.size := by
  rw [Lib.size_eq, fr_list, framed_len, ← Lib.size_eq, ← Lib.size_eq, ← Lib.size_eq]
theorem decode_wid (s : ByteArray) (x : Nat) : (Utf8.decode s x).2 = wid s.data.toList x := by unfold wid; rw [Lib.decodeL_drop]
theorem decode_run (s : ByteArray) (x : Nat) : (Utf8.decode s x).1 = run s.data.toList x := by unfold run; rw [Lib.decodeL_drop]
set_option maxHeartbeats 4000000 in
set_option maxRecDepth 100000 in
theorem beside_main (f a s b : ByteArray) (D : PD) (w : World) (hB : SomeAt f D w) (hW : WorksAt w) (hU : U8 w) (h1 : (s.size : Int) ≤ 4096) (h2 : (a.size : Int) ≤ 4096) (h3 : (b.size : Int) ≤ 4096) : Calls Tryz.prog 3 #[.string f, .string a, .string s, .string b] w fun e w' => e = .returned (.bool true) ∧ Below w.heap.size w w' := by
  have HB := Lib.hid hB
  have HW := Lib.hid hW
  have HU := Lib.hid hU
  have d1 : decide ((4096 : Int) < (s.size : Int)) = false := decide_eq_false (by omega)
  have d2 : decide ((4096 : Int) < (a.size : Int)) = false := decide_eq_false (by omega)
  have d3 : decide ((4096 : Int) < (b.size : Int)) = false := decide_eq_false (by omega)
  clear hB hW hU
  go_enter Tryz.func3, Tryz.ntmps3
  go_wp2_with (go_at_call 8; (with_reducible refine HB.out.mono ?_); rintro e w1 ⟨p, q, st, rfl, hp, -, -, hb⟩; have HP := Lib.hid hp; clear hp)
  have HBW := Lib.hid hb
  have HT : Hid (fr a s b = a ++ { data := #[33] } ++ s ++ { data := #[33] } ++ b) := Lib.hid rfl
  rw [← HT.out]
  have htz : (fr a s b).size ≤ 1048576 := by rw [fr_size]; omega
  have HTL := Lib.hid (fr_list a s b)
  generalize fr a s b = T at *
  have HTZ := Lib.hid htz
  clear hb htz HB
  go_loopg [14] s.size (fun gk v wx => ∃ (pos : Nat) (z : Int), v = .int .i64 z ∧ -1 ≤ z ∧ z ≤ 4096 ∧ Hid ((pos = 0 → z = -1) ∧ (0 < pos → 0 ≤ z)) ∧ Hid (Bd s.data.toList pos) ∧ pos ≤ s.size ∧ s.size ≤ pos + gk ∧ wx.heap[w1.heap.size]? = some (.stringIter s pos) ∧ Below w1.heap.size w1 wx)
  case atStart => exact ⟨0, -1, rfl, by omega, by omega, Lib.hid ⟨fun _ => rfl, fun h => by omega⟩, Lib.hid .zero, Nat.zero_le _, by omega, World.iter_heap w1 s 0, (Below.refl _ w1).alloc (Nat.le_refl _) _⟩
  case round =>
    obtain ⟨pos, z, rfl, hz0, hz1, hz, hbd, hps, hfu, hit, hbw⟩ := hrel
    by_cases hlt : pos < s.size
    · obtain ⟨g', rfl⟩ : ∃ g', gk = g' + 1 := ⟨gk - 1, by omega⟩
      have hnx : ∀ ty, (Instr.next (.pointer (some ⟨w1.heap.size, 0, none⟩)) true ty).run Tryz.prog wr = _ := fun ty => Lib.run_next_any_at wr w1.heap.size s pos ty hit hlt
      have hwl := wid_le (l := s.data.toList) (x := pos) (by rw [← Lib.size_eq]; exact hlt)
      rw [← Lib.size_eq] at hwl
      have hwp := wid_pos s.data.toList pos
      have HN := Lib.hid (Bd.step hbd.out (by rw [← Lib.size_eq]; exact hlt))
      obtain ⟨r, hr⟩ : ∃ r : Int, (((Utf8.decode s pos).1 : Nat) : Int) = r := ⟨_, rfl⟩
      rw [decode_wid, hr] at hnx
      clear hr
      generalize wid s.data.toList pos = K at *
      have hit2 := Lib.iterAt_heap wr w1.heap.size s pos (pos + K) hit
      have hbw2 := Lib.below_iterAt hbw (k := w1.heap.size) (Nat.le_refl _) s (pos + K)
      obtain ⟨W, hWd⟩ : ∃ W, wr.iterAt w1.heap.size s (pos + K) = W := ⟨_, rfl⟩
      rw [hWd] at hnx hit2 hbw2
      have HIT := Lib.hid hit2
      have HBX := Lib.hid hbw2
      clear hit hbw hWd hit2 hbw2
      by_cases hp0 : 0 < pos
      · have hz2 : (0 : Int) ≤ z := hz.out.2 hp0
        have hp0z : (0 : Int) < (pos : Int) := by omega
        have hpos4 : (pos : Int) ≤ 4096 := by omega
        have HQ := Lib.hid (beside D (a := a.data.toList) (b := b.data.toList) hbd.out hp0 (by rw [← Lib.size_eq]; exact hlt))
        have E1 := Lib.hid (edgeCall HP.out (HU.out.on HBW.out) HTZ.out (z := (a.size : Int) + 1 + (pos : Int)) rfl)
        have E2 := Lib.hid (edgeCall HP.out (HU.out.on HBW.out) (s := s) (by omega) (z := (pos : Int)) rfl)
        rw [HTL.out, Lib.size_eq a, HQ.out, ← Lib.size_eq a] at E1
        generalize edgeAt D s.data.toList (pos : Int) = bb at *
        clear HQ
        cases bb
        all_goals
          go_wp2_with (first
            | (go_at_call 10; (with_reducible refine (E1.out _ HBX.out).mono ?_); rintro e w3 ⟨rfl, hb3⟩; have HB3 := Lib.hid (HBX.out.trans (hb3.mono HBX.out.size)))
            | (go_at_call 10; (with_reducible refine (E2.out _ HB3.out).mono ?_); rintro e w4 ⟨rfl, hb4⟩; have HB4 := Lib.hid (HB3.out.trans (hb4.mono HB3.out.size))))
          go_roundg g'
          case rel => exact ⟨pos + K, (pos : Int), rfl, by omega, by omega, Lib.hid ⟨fun h => by omega, fun h => by omega⟩, Lib.hid HN.out, by omega, by omega, (hb4.block _ (by have := HB3.out.size; have := (Array.getElem?_eq_some_iff.1 HIT.out).1; have := hb3.size; omega)).trans ((hb3.block _ (Array.getElem?_eq_some_iff.1 HIT.out).1).trans HIT.out), HB4.out⟩
          case measure => omega
      · have hpz : pos = 0 := by omega
        have hz2 : z = -1 := hz.out.1 hpz
        subst hz2
        subst hpz
        go_wp2
        go_roundg g'
        case rel => exact ⟨0 + K, 0, rfl, by omega, by omega, Lib.hid ⟨fun h => by omega, fun h => by omega⟩, HN, by omega, by omega, HIT.out, HBX.out⟩
        case measure => omega
    · have hnx : ∀ ty, (Instr.next (.pointer (some ⟨w1.heap.size, 0, none⟩)) true ty).run Tryz.prog wr = _ := fun ty => Lib.run_next_end_at wr w1.heap.size s pos ty hit hlt
      have HBX := Lib.hid (below_then' HBW.out hbw)
      go_wp2_with (go_at_call 9; (with_reducible refine (HW.out _ HBX.out).mono ?_); rintro e w2 ⟨rfl, hb2⟩)
      go_ret
      exact ⟨rfl, below_then' HBX.out hb2⟩
theorem beside_calls (f a s b : ByteArray) {m : Int} {ev : Value} (w : World) (hv : Vars w.heap.size w m ev) (hkd : KindsAt w) (hU : U8 w) : Calls Tryz.prog 3 #[.string f, .string a, .string s, .string b] w fun e w' => e = .returned (.bool true) ∧ Below w.heap.size w w' := by
  have hW := worksAt hv hU
  rcases both_cases f w hv hkd with h | ⟨D, _, h⟩
  · exact beside_none f a s b w h hW
  · by_cases hl : (4096 : Int) < s.size ∨ (4096 : Int) < a.size ∨ (4096 : Int) < b.size
    · exact beside_long f a s b D w h hW hl
    · exact beside_main f a s b D w h hW hU (by omega) (by omega) (by omega)
end Go.Proofs.YtfmcadobpgpajaaGreatDoor.Cl
