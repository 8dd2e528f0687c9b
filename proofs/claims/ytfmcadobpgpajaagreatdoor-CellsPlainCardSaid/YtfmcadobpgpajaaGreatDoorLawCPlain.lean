/- The law CellsPlain: the walk. -/
import Derived.Test.YtfmcadobpgpajaaGreatDoorLawBeside
namespace Go.Proofs.YtfmcadobpgpajaaGreatDoor.Cl
open Go Go.RowKit Go.Shelf Go.Proofs.YtfmcadobpgpajaaGreatDoor.Sp Go.Proofs.YtfmcadobpgpajaaGreatDoor.Ut Go.Proofs.YtfmcadobpgpajaaGreatDoor.Pr Go.Proofs.YtfmcadobpgpajaaGreatDoor.Rf
set_option linter.unusedSimpArgs false
set_option linter.unusedVariables false

theorem parse_nil : parse [] = .ok {} := by rfl
theorem cplain_long (s : ByteArray) {m : Int} {ev : Value} (w : World) (hv : Vars w.heap.size w m ev) (h : (4096 : Int) < s.size) : Calls Tryz.prog 4 #[.string s] w fun e w' => e = .returned (.bool true) ∧ Below w.heap.size w w' := by
  have HPP := Lib.hid (parse_good (s := ⟨#[]⟩) (by decide) hv parse_nil)
  clear hv
  go_enter Tryz.func4, Tryz.ntmps4
  go_wp2_with (go_at_call 11; (with_reducible refine HPP.out.mono ?_); rintro e w1 ⟨p, rfl, -, hb⟩)
  go_ret
  exact ⟨rfl, hb⟩
set_option maxHeartbeats 8000000 in
set_option maxRecDepth 100000 in
theorem cplain_main (s : ByteArray) {m : Int} {ev : Value} (w : World) (hv : Vars w.heap.size w m ev) (hW : WorksAt w) (hU : U8 w) (h1 : (s.size : Int) ≤ 4096) : Calls Tryz.prog 4 #[.string s] w fun e w' => e = .returned (.bool true) ∧ Below w.heap.size w w' := by
  have HPP := Lib.hid (parse_good (s := ⟨#[]⟩) (by decide) hv parse_nil)
  have HW := Lib.hid hW
  have HU := Lib.hid hU
  have d1 : decide ((4096 : Int) < (s.size : Int)) = false := decide_eq_false (by omega)
  clear hv hW hU
  go_enter Tryz.func4, Tryz.ntmps4
  go_wp2_with (go_at_call 11; (with_reducible refine HPP.out.mono ?_); rintro e w1 ⟨p, rfl, hp, hb⟩; have HP := Lib.hid hp; clear hp)
  have HBW := Lib.hid hb
  clear hb HPP
  go_loopg [5] s.size (fun gk v wx => ∃ (pos : Nat) (z : Int), v = .int .i32 z ∧ -1 ≤ z ∧ z ≤ 1114111 ∧ Hid (0 < pos → ∃ x, Bd s.data.toList x ∧ x + wid s.data.toList x = pos ∧ z = (run s.data.toList x : Nat)) ∧ Hid (Bd s.data.toList pos) ∧ pos ≤ s.size ∧ s.size ≤ pos + gk ∧ wx.heap[w1.heap.size]? = some (.stringIter s pos) ∧ Below w1.heap.size w1 wx)
  case atStart => exact ⟨0, -1, rfl, by omega, by omega, Lib.hid (fun h => by omega), Lib.hid .zero, Nat.zero_le _, by omega, World.iter_heap w1 s 0, (Below.refl _ w1).alloc (Nat.le_refl _) _⟩
  case round =>
    obtain ⟨pos, z, rfl, hz0, hz1, hz, hbd, hps, hfu, hit, hbw⟩ := hrel
    by_cases hlt : pos < s.size
    · obtain ⟨g', rfl⟩ : ∃ g', gk = g' + 1 := ⟨gk - 1, by omega⟩
      have hnx : ∀ ty, (Instr.next (.pointer (some ⟨w1.heap.size, 0, none⟩)) true ty).run Tryz.prog wr = _ := fun ty => Lib.run_next_any_at wr w1.heap.size s pos ty hit hlt
      have hwl := wid_le (l := s.data.toList) (x := pos) (by rw [← Lib.size_eq]; exact hlt)
      rw [← Lib.size_eq] at hwl
      have hwp := wid_pos s.data.toList pos
      have HN := Lib.hid (Bd.step hbd.out (by rw [← Lib.size_eq]; exact hlt))
      have HL : Hid (0 < pos + wid s.data.toList pos → ∃ x, Bd s.data.toList x ∧ x + wid s.data.toList x = pos + wid s.data.toList pos ∧ ((run s.data.toList pos : Nat) : Int) = (run s.data.toList x : Nat)) := Lib.hid fun _ => ⟨pos, hbd.out, rfl, rfl⟩
      rw [decode_wid, decode_run] at hnx
      have hr1 : (run s.data.toList pos : Int) ≤ 1114111 := by have := Lib.decodeL_rune (s.data.toList.drop pos); unfold run; omega
      have hr0 : (0 : Int) ≤ (run s.data.toList pos : Int) := by omega
      have hit2 := Lib.iterAt_heap wr w1.heap.size s pos (pos + wid s.data.toList pos) hit
      have hbw2 := Lib.below_iterAt hbw (k := w1.heap.size) (Nat.le_refl _) s (pos + wid s.data.toList pos)
      obtain ⟨W, hWd⟩ : ∃ W, wr.iterAt w1.heap.size s (pos + wid s.data.toList pos) = W := ⟨_, rfl⟩
      rw [hWd] at hnx hit2 hbw2
      have HIT := Lib.hid hit2
      have HBX := Lib.hid hbw2
      have HED : Hid (0 < pos → ¬ ((4352 ≤ (run s.data.toList pos : Int) ∧ (run s.data.toList pos : Int) ≤ 4607) ∨ (44032 ≤ (run s.data.toList pos : Int) ∧ (run s.data.toList pos : Int) ≤ 55203)) → ¬ (z = 13 ∧ (run s.data.toList pos : Int) = 10) → edgeAt {} s.data.toList (pos : Int) = true) := Lib.hid fun g0 g1 g2 => by
        obtain ⟨x, e1, e2, e3⟩ := hz.out g0
        rw [← e2] at g1 g2 ⊢
        exact plain_edge e1 (by rw [e2, ← Lib.size_eq]; exact hlt) g1 (by rw [← e3]; exact g2)
      have E1 := Lib.hid (edgeCall HP.out (HU.out.on HBW.out) (s := s) (by omega) (z := (pos : Int)) rfl)
      clear hit hbw hWd hit2 hbw2
      generalize wid s.data.toList pos = K at *
      generalize (run s.data.toList pos : Int) = r at *
      generalize edgeAt {} s.data.toList (pos : Int) = bb at *
      obtain ⟨b1, f1⟩ : ∃ b, decide ((4352 : Int) ≤ r) = b := ⟨_, rfl⟩
      obtain ⟨b2, f2⟩ : ∃ b, decide (r ≤ (4607 : Int)) = b := ⟨_, rfl⟩
      obtain ⟨b3, f3⟩ : ∃ b, decide ((44032 : Int) ≤ r) = b := ⟨_, rfl⟩
      obtain ⟨b4, f4⟩ : ∃ b, decide (r ≤ (55203 : Int)) = b := ⟨_, rfl⟩
      by_cases hp0 : 0 < pos
      · have hp0z : (0 : Int) < (pos : Int) := by omega
        have hpos4 : (pos : Int) ≤ 4096 := by omega
        obtain ⟨b5, f5⟩ : ∃ b, (z == (13 : Int)) = b := ⟨_, rfl⟩
        obtain ⟨b6, f6⟩ : ∃ b, (r == (10 : Int)) = b := ⟨_, rfl⟩
        have hbb : Hid ((b1 && b2 || b3 && b4) = false → (b5 && b6) = false → bb = true) := Lib.hid fun g1 g2 => HED.out hp0 (by
          subst f1 f2 f3 f4
          simp only [Bool.or_eq_false_iff, Bool.and_eq_false_iff, decide_eq_false_iff_not] at g1
          omega) (by
          subst f5 f6
          simp only [Bool.and_eq_false_iff, beq_eq_false_iff_ne] at g2
          rintro ⟨g3, g4⟩
          rcases g2 with g2 | g2
          · exact g2 g3
          · exact g2 g4)
        clear HED
        cases b1 <;> cases b2 <;> cases b3 <;> cases b4
        all_goals first
          | (exfalso; simp only [decide_eq_true_eq, decide_eq_false_iff_not] at f1 f2 f3 f4; omega)
          | (cases b5 <;> cases b6)
        all_goals first
          | (obtain rfl := hbb.out rfl rfl)
          | skip
        all_goals
          go_wp2_with (go_at_call 10; (with_reducible refine (E1.out _ HBX.out).mono ?_); rintro e w3 ⟨rfl, hb3⟩; have HB3 := Lib.hid (HBX.out.trans (hb3.mono HBX.out.size)))
          go_roundg g'
          case rel => first
            | exact ⟨pos + K, r, rfl, by omega, by omega, HL, HN, by omega, by omega, (hb3.block _ (Array.getElem?_eq_some_iff.1 HIT.out).1).trans HIT.out, HB3.out⟩
            | exact ⟨pos + K, r, rfl, by omega, by omega, HL, HN, by omega, by omega, HIT.out, HBX.out⟩
          case measure => omega
      · have hpz : pos = 0 := by omega
        subst hpz
        cases b1 <;> cases b2 <;> cases b3 <;> cases b4
        all_goals first
          | (exfalso; simp only [decide_eq_true_eq, decide_eq_false_iff_not] at f1 f2 f3 f4; omega)
          | skip
        all_goals
          go_wp2
          go_roundg g'
          case rel => exact ⟨0 + K, r, rfl, by omega, by omega, HL, HN, by omega, by omega, HIT.out, HBX.out⟩
          case measure => omega
    · have hnx : ∀ ty, (Instr.next (.pointer (some ⟨w1.heap.size, 0, none⟩)) true ty).run Tryz.prog wr = _ := fun ty => Lib.run_next_end_at wr w1.heap.size s pos ty hit hlt
      have HBX := Lib.hid (below_then' HBW.out hbw)
      go_wp2_with (go_at_call 9; (with_reducible refine (HW.out _ HBX.out).mono ?_); rintro e w2 ⟨rfl, hb2⟩)
      go_ret
      exact ⟨rfl, below_then' HBX.out hb2⟩
theorem cplain_calls (s : ByteArray) {m : Int} {ev : Value} (w : World) (hv : Vars w.heap.size w m ev) (hU : U8 w) : Calls Tryz.prog 4 #[.string s] w fun e w' => e = .returned (.bool true) ∧ Below w.heap.size w w' := by
  by_cases h : (4096 : Int) < s.size
  · exact cplain_long s w hv h
  · exact cplain_main s w hv (worksAt hv hU) hU (by omega)
end Go.Proofs.YtfmcadobpgpajaaGreatDoor.Cl
