/- cells: unit, Edge, next: the walks. -/
import Derived.Test.YtfmcadobpgpajaaGreatDoorCellAsk
namespace Go.Proofs.YtfmcadobpgpajaaGreatDoor.Cl
open Go Go.RowKit Go.Shelf Go.Proofs.YtfmcadobpgpajaaGreatDoor.Sp Go.Proofs.YtfmcadobpgpajaaGreatDoor.Ut Go.Proofs.YtfmcadobpgpajaaGreatDoor.Pr
set_option linter.unusedSimpArgs false
set_option linter.unusedVariables false

theorem dec_wid (l : List UInt8) (x : Nat) : (Lib.decodeL (l.drop x)).2 = wid l x := rfl
theorem unit_true {l : List UInt8} {at_ : Nat} (h : ∀ y, y < at_ → at_ < y + 4 → ¬ (1 < wid l y ∧ at_ < y + wid l y)) : unitB l at_ = true := by
  unfold unitB
  rw [List.all_eq_true]
  intro y hy
  have := h y (List.mem_range.1 hy)
  simp only [Bool.not_eq_true', Bool.and_eq_false_iff, decide_eq_false_iff_not]
  by_cases h4 : at_ < y + 4
  · have := this h4
    omega
  · exact .inl (.inl h4)
theorem unit_false {l : List UInt8} {at_ y : Nat} (hy : y < at_) (h4 : at_ < y + 4) (h1 : 1 < wid l y) (h2 : at_ < y + wid l y) : unitB l at_ = false := by
  unfold unitB
  rw [List.all_eq_false]
  exact ⟨y, List.mem_range.2 hy, by simp [h4, h1, h2]⟩
set_option maxHeartbeats 4000000 in
set_option maxRecDepth 100000 in
theorem unit_calls (s : ByteArray) (k : Nat) (hs : s.size ≤ 1048576) (hk0 : 0 < k) (hk : k < s.size) (W : World) (hU : U8 W) :
    Calls Tryz.prog 25 #[.string s, .int .i64 (k : Int)] W fun e w' => e = .returned (.bool (unitB s.data.toList k)) ∧ Below W.heap.size W w' := by
  have HU := Lib.hid hU
  clear hU
  go_enter Tryz.func25, Tryz.ntmps25
  go_wp2
  go_loopw [5] (fun f wr => ∃ z : Int, f = .int .i64 z ∧ -1 ≤ z ∧ z < (k : Int) ∧ (k : Int) - 5 < z ∧ Hid (∀ y : Nat, z < (y : Int) → y < k → ¬ (1 < wid s.data.toList y ∧ k < y + wid s.data.toList y)) ∧ Below W.heap.size W wr) (fun f _ => (intOf f + 1).toNat)
  case atStart => exact ⟨(k : Int) - 1, rfl, by omega, by omega, by omega, Lib.hid (fun y h1 h2 => by omega), Below.refl _ _⟩
  case round =>
    obtain ⟨z, rfl, hz0, hz1, hz2, hH, hB⟩ := hrel
    by_cases hlt : 0 ≤ z ∧ (k : Int) - 4 < z
    · obtain ⟨hlt1, hlt2⟩ := hlt
      obtain ⟨y, rfl⟩ : ∃ y : Nat, z = (y : Int) := ⟨z.toNat, by omega⟩
      have HD := Lib.hid (dec_at s y (by omega) wr (HU.out.on hB))
      obtain ⟨r, hr⟩ : ∃ r : Int, (((Lib.decodeL (s.data.toList.drop y)).1 : Nat) : Int) = r := ⟨_, rfl⟩
      rw [hr, dec_wid] at HD
      have hw4 : wid s.data.toList y ≤ 4 ∨ ¬ 1 < wid s.data.toList y := by
        by_cases h : 1 < wid s.data.toList y
        · exact .inl (wide h).2.1
        · exact .inr h
      clear hr
      obtain ⟨w, hw⟩ : ∃ w, wid s.data.toList y = w := ⟨_, rfl⟩
      rw [hw] at HD hw4
      have hys : (y : Int) ≤ (s.size : Int) := by omega
      by_cases h1 : 1 < w
      · have h1z : (1 : Int) < (w : Int) := by omega
        have hw4' : (w : Int) ≤ 4 := by omega
        by_cases h2 : k < y + w
        · have h2z : (k : Int) < (y : Int) + (w : Int) := by omega
          have HF := Lib.hid (unit_false (l := s.data.toList) (at_ := k) (y := y) (by omega) (by omega) (by rw [hw]; exact h1) (by rw [hw]; exact h2))
          clear hw
          go_wp2_with (go_at_call 51; (with_reducible refine HD.out.mono ?_); rintro e w1 ⟨rfl, hb⟩)
          go_ret
          exact ⟨by rw [HF.out]; rfl, below_then' hB hb⟩
        · have h2z : ¬ (k : Int) < (y : Int) + (w : Int) := by omega
          have HW := Lib.hid hw
          clear hw
          go_wp2_with (go_at_call 51; (with_reducible refine HD.out.mono ?_); rintro e w1 ⟨rfl, hb⟩)
          go_roundw
          case rel => exact ⟨(y : Int) - 1, rfl, by omega, by omega, by omega, Lib.hid (fun u g1 g2 => by
            by_cases e : u = y
            · subst e; rw [HW.out]; omega
            · exact hH.out u (by omega) g2), below_then' hB hb⟩
          case measure => (simp [intOf]; try omega)
      · have h1z : ¬ (1 : Int) < (w : Int) := by omega
        have HW := Lib.hid hw
        clear hw hw4
        go_wp2_with (go_at_call 51; (with_reducible refine HD.out.mono ?_); rintro e w1 ⟨rfl, hb⟩)
        go_roundw
        case rel => exact ⟨(y : Int) - 1, rfl, by omega, by omega, by omega, Lib.hid (fun u g1 g2 => by
          by_cases e : u = y
          · subst e; rw [HW.out]; omega
          · exact hH.out u (by omega) g2), below_then' hB hb⟩
        case measure => (simp [intOf]; try omega)
    · have HF := Lib.hid (unit_true (l := s.data.toList) (at_ := k) (fun y g1 g2 => hH.out y (by omega) g1))
      by_cases hz : 0 ≤ z
      · have g2 : ¬ (k : Int) - 4 < z := fun h => hlt ⟨hz, h⟩
        clear hlt
        go_wp2
        go_ret
        exact ⟨by rw [HF.out]; rfl, hB⟩
      · clear hlt
        go_wp2
        go_ret
        exact ⟨by rw [HF.out]; rfl, hB⟩

/-! ### Edge -/
theorem edge_out {D : PD} {l : List UInt8} {z : Int} (h : l = [] ∨ z < 0 ∨ (l.length : Int) < z) : edgeAt D l z = false := by
  unfold edgeAt
  rcases h with h | h | h
  · simp [h]
  · rw [decide_eq_false (p := 0 ≤ z) (by omega)]; simp
  · rw [decide_eq_false (p := z ≤ (l.length : Int)) (by omega)]; simp
theorem edge_at {D : PD} {l : List UInt8} {k : Nat} (hl : l ≠ []) (hk : k ≤ l.length) : edgeAt D l (k : Int) = edgeB D l k := by
  unfold edgeAt
  rw [decide_eq_true hl, decide_eq_true (by omega), decide_eq_true (by omega)]
  simp
set_option maxHeartbeats 4000000 in
set_option maxRecDepth 100000 in
theorem Edge_calls (p : Nat) (D : PD) (s : ByteArray) (z : Int) (hs : s.size ≤ 1048576) (W : World) (H : PropsAt W.heap.size W p D) (hU : U8 W) :
    Calls Tryz.prog 10 #[.pointer (some ⟨p, 0, none⟩), .string s, .int .i64 z] W fun e w' => e = .returned (.bool (edgeAt D s.data.toList z)) ∧ Below W.heap.size W w' := by
  have hsz := Lib.size_eq s
  by_cases h0 : s.size = 0
  · have hne : s.toList = [] := by rw [Lib.toList_data]; exact List.eq_nil_of_length_eq_zero (by rw [← Lib.size_eq]; exact h0)
    have HO := Lib.hid (edge_out (D := D) (z := z) (.inl (show s.data.toList = [] by rw [← Lib.toList_data]; exact hne)))
    clear H hU hsz
    go_enter Tryz.func10, Tryz.ntmps10
    go_wp2
    all_goals go_ret
    all_goals exact ⟨by rw [HO.out]; rfl, Below.refl _ _⟩
  · have hne : ¬ s.toList = [] := by
      rw [Lib.toList_data]; intro e; rw [e] at hsz; exact h0 (by simpa using hsz)
    have hne2 : s.toList.isEmpty = false := by cases h : s.toList with
      | nil => exact absurd h hne
      | cons => rfl
    have hnl : s.data.toList ≠ [] := by rw [← Lib.toList_data]; exact hne
    have hem : (!s.toList.isEmpty) = true := by rw [hne2]; rfl
    by_cases hz0 : z < 0
    · have HO := Lib.hid (edge_out (D := D) (l := s.data.toList) (z := z) (.inr (.inl hz0)))
      clear H hU hsz
      go_enter Tryz.func10, Tryz.ntmps10
      go_wp2
      all_goals go_ret
      all_goals exact ⟨by rw [HO.out]; rfl, Below.refl _ _⟩
    · by_cases hz1 : (s.size : Int) < z
      · have HO := Lib.hid (edge_out (D := D) (l := s.data.toList) (z := z) (.inr (.inr (by rw [← hsz]; exact hz1))))
        clear H hU hsz
        go_enter Tryz.func10, Tryz.ntmps10
        go_wp2
        all_goals go_ret
        all_goals exact ⟨by rw [HO.out]; rfl, Below.refl _ _⟩
      · obtain ⟨k, rfl⟩ : ∃ k : Nat, z = (k : Int) := ⟨z.toNat, by omega⟩
        have hks : k ≤ s.size := by omega
        have HE := Lib.hid (edge_at (D := D) hnl (k := k) (by omega))
        by_cases e0 : k = 0
        · subst e0
          rw [HE.out, edge_zero D s.data.toList]
          clear H hU hsz
          go_enter Tryz.func10, Tryz.ntmps10
          go_wp2
          all_goals go_ret
          all_goals exact ⟨rfl, Below.refl _ _⟩
        · have hb0 : ((k : Int) == 0) = false := beq_eq_false_iff_ne.2 (by omega)
          by_cases e1 : k = s.size
          · have hb1 : ((k : Int) == (s.size : Int)) = true := beq_iff_eq.2 (by omega)
            rw [HE.out, show edgeB D s.data.toList k = true by rw [e1, hsz]; exact edge_len D _]
            clear H hU hsz e1
            go_enter Tryz.func10, Tryz.ntmps10
            go_wp2
            all_goals go_ret
            all_goals exact ⟨rfl, Below.refl _ _⟩
          · have hb1 : ((k : Int) == (s.size : Int)) = false := beq_eq_false_iff_ne.2 (by omega)
            have HO := Lib.hid (edge_in (D := D) (l := s.data.toList) (at_ := k) (by omega) (by omega))
            have UC := Lib.hid (unit_calls s k hs (by omega) (by omega) W hU)
            have JC : Hid (∀ W', Below W.heap.size W W' → Calls Tryz.prog 26 #[.pointer (some ⟨p, 0, none⟩), .string s, .int .i64 (k : Int)] W' fun e w' => e = .returned (.bool (jo D s.data.toList k)) ∧ Below W'.heap.size W' w') := Lib.hid fun W' h => joined_calls p D s k hs (by omega) W' (H.on h) (hU.on h)
            clear H hU hsz
            rw [HE.out, HO.out]
            clear HE HO
            generalize unitB s.data.toList k = u at *
            generalize jo D s.data.toList k = j at *
            cases u <;> cases j
            all_goals
              go_enter Tryz.func10, Tryz.ntmps10
              go_wp2_with (first
                | (go_at_call 25; (with_reducible refine UC.out.mono ?_); rintro e w1 ⟨rfl, hb⟩)
                | (go_at_call 26; (with_reducible refine (JC.out _ hb).mono ?_); rintro e w2 ⟨rfl, hb2⟩))
              go_ret
              first | exact ⟨rfl, below_then' hb hb2⟩ | exact ⟨rfl, hb⟩

/-! ### next -/
set_option maxHeartbeats 4000000 in
set_option maxRecDepth 100000 in
theorem next_calls (p : Nat) (D : PD) (s : ByteArray) (k : Nat) (hs : s.size ≤ 1048576) (hb : Bd s.data.toList k) (hk : k < s.size) (W : World) (H : PropsAt W.heap.size W p D) (hU : U8 W) :
    Calls Tryz.prog 40 #[.pointer (some ⟨p, 0, none⟩), .string s, .int .i64 (k : Int)] W fun e w' => ∃ n : Nat, e = .returned (.int .i64 (n : Int)) ∧ Next D s.data.toList k n ∧ Below W.heap.size W w' := by
  have hsz := Lib.size_eq s
  have HS := Lib.hid hsz
  have HU := Lib.hid hU
  have HP := Lib.hid H
  have HB := Lib.hid hb
  clear hsz hU H hb
  go_enter Tryz.func40, Tryz.ntmps40
  go_wp2
  go_loopw [2] (fun f wr => ∃ x : Nat, f = .int .i64 (x : Int) ∧ k ≤ x ∧ x < s.size ∧ Hid (Bd s.data.toList x ∧ ∀ y, k < y → y ≤ x → edgeB D s.data.toList y = false) ∧ Below W.heap.size W wr) (fun f _ => s.size - (intOf f).toNat)
  case atStart => exact ⟨k, rfl, Nat.le_refl _, hk, Lib.hid ⟨HB.out, fun y h1 h2 => by omega⟩, Below.refl _ _⟩
  case round =>
    obtain ⟨x, rfl, hx0, hx1, hH, hBW⟩ := hrel
    have HD := Lib.hid (dec_at s x hx1 wr (HU.out.on hBW))
    obtain ⟨r, hr⟩ : ∃ r : Int, (((Lib.decodeL (s.data.toList.drop x)).1 : Nat) : Int) = r := ⟨_, rfl⟩
    rw [hr, dec_wid] at HD
    clear hr
    have hle : x + wid s.data.toList x ≤ s.size := by have := wid_le (l := s.data.toList) (x := x) (by rw [← HS.out]; exact hx1); rw [HS.out]; exact this
    have hwp := wid_pos s.data.toList x
    have HG := Lib.hid (gap (D := D) hH.out.1 (by rw [← HS.out]; exact hx1))
    have HN := Lib.hid (Bd.step hH.out.1 (by rw [← HS.out]; exact hx1))
    have JC : Hid (∀ W', Below W.heap.size W W' → x + wid s.data.toList x < s.size → Calls Tryz.prog 26 #[.pointer (some ⟨p, 0, none⟩), .string s, .int .i64 ((x : Int) + (wid s.data.toList x : Int))] W' fun e w' => e = .returned (.bool (jo D s.data.toList (x + wid s.data.toList x))) ∧ Below W'.heap.size W' w') := Lib.hid fun W' h h2 => by
      have := joined_calls p D s (x + wid s.data.toList x) hs h2 W' (HP.out.on h) (HU.out.on h)
      rwa [Int.natCast_add] at this
    have HEU := Lib.hid (fun (h : x + wid s.data.toList x < s.data.toList.length) => edge_unit (D := D) HN.out h (by omega))
    generalize wid s.data.toList x = w at *
    have hxs : (x : Int) ≤ (s.size : Int) := by omega
    by_cases he : x + w = s.size
    · have hbe : ((x : Int) + (w : Int) == (s.size : Int)) = true := beq_iff_eq.2 (by omega)
      have HF : Hid (Next D s.data.toList k (x + w)) := Lib.hid ⟨by omega, by rw [← HS.out]; omega, by rw [he, HS.out]; exact edge_len D _, fun y h1 h2 => by
        by_cases h3 : y ≤ x
        · exact hH.out.2 y h1 h3
        · exact HG.out y (by omega) h2⟩
      clear he
      go_wp2_with (go_at_call 51; (with_reducible refine HD.out.mono ?_); rintro e w1 ⟨rfl, hb⟩)
      go_ret
      exact ⟨x + w, by rw [Int.natCast_add]; rfl, HF.out, below_then' hBW hb⟩
    · have hbe : ((x : Int) + (w : Int) == (s.size : Int)) = false := beq_eq_false_iff_ne.2 (by omega)
      have hlt : x + w < s.size := by omega
      have he2 := HEU.out (by rw [← HS.out]; exact hlt)
      have HJ := Lib.hid (fun W' h => JC.out W' h hlt)
      clear HEU JC
      have HE2 := Lib.hid he2
      clear he2 he
      generalize jo D s.data.toList (x + w) = j at *
      cases j
      · go_wp2_with (first
          | (go_at_call 51; (with_reducible refine HD.out.mono ?_); rintro e w1 ⟨rfl, hb⟩; have hb1 := below_then' hBW hb)
          | (go_at_call 26; (with_reducible refine (HJ.out _ hb1).mono ?_); rintro e w2 ⟨rfl, hb2⟩))
        go_ret
        refine ⟨x + w, by rw [Int.natCast_add]; rfl, ⟨by omega, by rw [← HS.out]; omega, HE2.out, fun y h1 h2 => ?_⟩, below_then' hb1 hb2⟩
        by_cases h3 : y ≤ x
        · exact hH.out.2 y h1 h3
        · exact HG.out y (by omega) h2
      · go_wp2_with (first
          | (go_at_call 51; (with_reducible refine HD.out.mono ?_); rintro e w1 ⟨rfl, hb⟩; have hb1 := below_then' hBW hb)
          | (go_at_call 26; (with_reducible refine (HJ.out _ hb1).mono ?_); rintro e w2 ⟨rfl, hb2⟩))
        go_roundw
        case rel =>
          refine ⟨x + w, by rw [Int.natCast_add], by omega, by omega, Lib.hid ⟨HN.out, fun y h1 h2 => ?_⟩, below_then' hb1 hb2⟩
          by_cases h3 : y ≤ x
          · exact hH.out.2 y h1 h3
          · by_cases h4 : y = x + w
            · rw [h4]; exact HE2.out
            · exact HG.out y (by omega) (by omega)
        case measure => (simp [intOf]; try omega)
end Go.Proofs.YtfmcadobpgpajaaGreatDoor.Cl
