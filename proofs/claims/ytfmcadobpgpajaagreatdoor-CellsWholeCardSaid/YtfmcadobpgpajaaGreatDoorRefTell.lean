/- What the reference answers of points: Decomp, Fold. -/
import Derived.Test.YtfmcadobpgpajaaGreatDoorRefSingle
namespace Go.Proofs.YtfmcadobpgpajaaGreatDoor.Rf
open Go Go.RowKit Go.Shelf Go.Proofs.YtfmcadobpgpajaaGreatDoor.Sp Go.Proofs.YtfmcadobpgpajaaGreatDoor.Pr Go.Proofs.YtfmcadobpgpajaaGreatDoor.Rowl
set_option linter.unusedSimpArgs false

theorem PtsB.read {W : World} {tv : Value} {ps : List Int} (h : PtsB W tv ps) : ReadPts W tv ps := by
  obtain ⟨b, off, cap, cs, e, hb, h1, h2, hc⟩ := h
  exact ⟨by omega, .inr ⟨b, off, cap, e, fun i x hi => by rw [cell_of_row W b (off + i) cs _ (0, 0) hb]; exact hc i x hi⟩⟩
set_option maxHeartbeats 4000000 in
set_option maxRecDepth 100000 in
theorem copy_calls (va : Value) (l : List Int) (w : World) (h : ReadPts w va l) (hl : l.length ≤ 1048576) : Calls Tryz.prog 106 #[va] w fun e w' => ∃ v', e = .returned v' ∧ OwnPts w.heap.size w' v' l ∧ Below w.heap.size w w' := by
  obtain ⟨A, c, rfl⟩ := h.slice
  have H := Lib.hid h
  clear h
  go_enter Tryz.func106, Tryz.ntmps106
  go_wp2
  go_loopw [3, 4] (fun vo vi wr => ∃ (k : Nat) (A : Option Addr) (C : Nat), vi = .int .i64 k ∧ vo = .slice A k C ∧ k ≤ l.length ∧ Hid (OwnPts w.heap.size wr (.slice A k C) (l.take k)) ∧ Hid (Below w.heap.size w wr)) (fun _ vi _ => l.length - (intOf vi).toNat)
  case atStart => exact ⟨0, none, 0, rfl, rfl, by omega, Lib.hid (own_nil' _ _), Lib.hid (Below.refl _ _)⟩
  case round =>
    obtain ⟨k, A1, C1, rfl, rfl, hk, HO, HR⟩ := hrel
    by_cases hlt : k < l.length
    · obtain ⟨y, hy⟩ : ∃ y, l[k]? = some y := ⟨_, List.getElem?_eq_getElem hlt⟩
      obtain ⟨b, off, rfl⟩ : ∃ b off, A = some ⟨b, off, none⟩ := by
        obtain ⟨b, off, c', hA⟩ := H.out.pos (by omega)
        simp only [Value.slice.injEq] at hA
        exact ⟨b, off, hA.1⟩
      have hcy := cell_later HR.out (H.out.cell k y hy)
      have htk : l.take (k + 1) = l.take k ++ [y] := by rw [List.take_add_one, hy]; rfl
      have HT := Lib.hid htk
      have HTL : Hid ((l.take (k + 1)).length = k + 1) := Lib.hid (by rw [List.length_take]; omega)
      have hkl : (l.take k).length ≤ 1048577 := by rw [List.length_take]; omega
      have hWz : w.heap.size ≤ wr.heap.size := HR.out.size
      clear hy htk
      go_wp2_with (at_builtin; go_must (refine wpList_append_pt rfl _ _ rfl w.heap.size _ (l.take k) rfl HO.out rfl hkl hWz ?_; intro v2 w2 ho2 hb2; obtain ⟨A2, C2, hv2⟩ := own_slice ho2; rw [← HT.out, HTL.out] at hv2; subst hv2; have HO2 : Hid (OwnPts w.heap.size w2 (.slice A2 (k + 1) C2) (l.take (k + 1))) := Lib.hid (by rw [HT.out]; exact ho2); have HR2 := Lib.hid (HR.out.trans hb2); clear ho2 hb2))
      refine ⟨⟨k + 1, A2, C2, by go_num, rfl, by omega, HO2, HR2⟩, ?_⟩
      simp [intOf]
      omega
    · have hke : k = l.length := by omega
      subst hke
      have HE : Hid (OwnPts w.heap.size wr (.slice A1 l.length C1) l) := Lib.hid (by have := HO.out; rwa [List.take_of_length_le (Nat.le_refl _)] at this)
      clear HO
      go_wp2
      go_ret
      exact ⟨_, rfl, HE.out, HR.out⟩
/-- What the reference keeps, at block q. -/
def RefAt (q : Nat) (W : World) (st : St) : Prop := (∃ n₀ v xs n, Ref4 q n₀ W v xs n ∧ Means W xs n st) ∧ StOk st ∧ st.d.classes.length ≤ 1048576 ∧ st.d.kinds.length ≤ 1048576 ∧ st.d.folds.length ≤ 1048576 ∧ st.d.decomps.length ≤ 1048576
theorem RefAt.on {q : Nat} {W W' : World} {st : St} (h : RefAt q W st) (hb : Below W.heap.size W W') : RefAt q W' st := by
  obtain ⟨⟨n₀, v, xs, n, h1, h2⟩, h3⟩ := h
  exact ⟨⟨n₀, v, xs, n, h1.later hb, h2.later hb⟩, h3⟩
/-- One of its rows of lines, cell for cell. -/
def LinesAt (W : World) (q i : Nat) (l : List (Int × List Int)) : Prop := ∃ A c, W.cell? ⟨q, i, none⟩ = some (.slice A l.length c) ∧ l.length ≤ maxLen ∧ ∀ (j : Nat) (p : Int × List Int), l[j]? = some p → ∃ g, A = some ⟨g, 0, none⟩ ∧ ∃ tv k, W.cell? ⟨g, j * 3, none⟩ = some (.int .i64 p.1) ∧ W.cell? ⟨g, j * 3 + 1, none⟩ = some tv ∧ W.cell? ⟨g, j * 3 + 2, none⟩ = some (.int .i64 k) ∧ PtsB W tv p.2
theorem RefAt.decomps {q : Nat} {W : World} {st : St} (h : RefAt q W st) : LinesAt W q 3 st.d.decomps := by
  obtain ⟨⟨n₀, v, xs, n, h1, h2⟩, h3⟩ := h
  obtain ⟨A, c, e, hc⟩ := line_cells (h1.own 3 (by decide)) h2.d.1 h2.d.2
  have hl := own_len (h1.own 3 (by decide))
  rw [h2.d.2] at hl
  refine ⟨A, c, by rw [cell_of_row W q 3 _ _ (0, 0) h1.hp, ← e]; rfl, hl, fun j p hp => ?_⟩
  obtain ⟨g, e1, tv, k, a1, a2, a3, _, a5⟩ := hc j p hp
  exact ⟨g, e1, tv, k, a1, a2, a3, a5⟩
theorem RefAt.folds {q : Nat} {W : World} {st : St} (h : RefAt q W st) : LinesAt W q 2 st.d.folds := by
  obtain ⟨⟨n₀, v, xs, n, h1, h2⟩, h3⟩ := h
  obtain ⟨⟨ks, hk⟩, hn⟩ := h2.f
  obtain ⟨A, c, e, hc⟩ := line_cells (h1.own 2 (by decide)) hk hn
  have hl := own_len (h1.own 2 (by decide))
  rw [hn] at hl
  refine ⟨A, c, by rw [cell_of_row W q 2 _ _ (0, 0) h1.hp, ← e]; rfl, hl, fun j p hp => ?_⟩
  obtain ⟨g, e1, tv, k, a1, a2, a3, _, a5⟩ := hc j p hp
  exact ⟨g, e1, tv, k, a1, a2, a3, a5⟩
theorem look_first {l : List (Int × List Int)} {r : Int} {i : Nat} {p : Int × List Int} (h : l[i]? = some p) (e : p.1 = r) (hn : ∀ (j : Nat) (p' : Int × List Int), j < i → l[j]? = some p' → p'.1 ≠ r) : lookD l r = some p.2 := by
  unfold lookD
  have : l.find? (fun p => p.1 == r) = some p := by
    obtain ⟨hi, e2⟩ := List.getElem?_eq_some_iff.1 h
    rw [List.find?_eq_some_iff_getElem]
    refine ⟨by simpa using e, i, hi, e2, fun j hj => ?_⟩
    simpa using hn j _ hj (List.getElem?_eq_getElem (by omega))
  rw [this]
  rfl
set_option maxHeartbeats 8000000 in
set_option maxRecDepth 100000 in
theorem rdecomp_look (q : Nat) (st : St) (r : Int) (hr0 : -2147483648 ≤ r) (hr1 : r ≤ 2147483647) (w : World) (h : RefAt q w st) (hs : isSyl r = false) : Calls Tryz.prog 80 #[.pointer (some ⟨q, 0, none⟩), .int .i32 r] w fun e w' => ∃ v', e = .returned v' ∧ OwnPts w.heap.size w' v' (decompOf st.d r) ∧ Below w.heap.size w w' := by
  obtain ⟨A, c, hq, hlen, hc⟩ := h.decomps
  have h8 := Lib.hid h.2.1.d8
  unfold maxLen at hlen
  have HC := Lib.hid hc
  have HD : Hid (decompOf st.d r = (lookD st.d.decomps r).getD []) := Lib.hid (by unfold decompOf; rw [hs]; rfl)
  clear h hc
  generalize st.d.decomps = l at *
  go_enter Tryz.func80, Tryz.ntmps80
  go_wp2_with (go_at_call 78; (with_reducible refine (syl_calls _ _).mono ?_); rintro e w6 ⟨rfl, hw⟩; subst w6)
  go_loop [7] (fun vi => ∃ k : Nat, vi = .int .i64 k ∧ k ≤ l.length ∧ Hid (∀ (j : Nat) (p' : Int × List Int), j < k → l[j]? = some p' → p'.1 ≠ r)) (fun vi => l.length - (intOf vi).toNat)
  case atStart => exact ⟨0, rfl, by omega, Lib.hid (fun j p hj => by omega)⟩
  case round =>
    obtain ⟨k, rfl, hk, HI⟩ := hrel
    by_cases hlt : k < l.length
    · obtain ⟨p, hp⟩ : ∃ p, l[k]? = some p := ⟨_, List.getElem?_eq_getElem hlt⟩
      obtain ⟨g, rfl, tv, kk, c0, c1, _, hpt⟩ := HC.out k p hp
      have HP := Lib.hid hp
      clear hp
      by_cases hr : p.1 = r
      · have HL := Lib.hid (look_first HP.out hr HI.out)
        have hb : (p.1 == r) = true := beq_iff_eq.2 hr
        have HCP := Lib.hid (copy_calls tv p.2 w (PtsB.read hpt) (by have := (h8.out p (List.mem_of_getElem? HP.out)).1; omega))
        obtain ⟨At, Ct, rfl⟩ := (PtsB.read hpt).slice
        generalize p.1 = p1 at *
        clear hr hpt
        go_wp2_with (go_at_call 106; go_must (refine HCP.out.mono ?_; rintro e w5 ⟨v', rfl, ho, hb5⟩))
        go_ret
        rw [HD.out, HL.out]
        exact ⟨v', rfl, ho, hb5⟩
      · have hb : (p.1 == r) = false := beq_eq_false_iff_ne.2 hr
        have HN : Hid (∀ (j : Nat) (p' : Int × List Int), j < k + 1 → l[j]? = some p' → p'.1 ≠ r) := Lib.hid (fun j p' hj hp' => by
          by_cases hjk : j < k
          · exact HI.out j p' hjk hp'
          · have : j = k := by omega
            subst this
            rw [HP.out] at hp'
            injection hp' with hp'
            subst hp'
            exact hr)
        clear HP hpt
        generalize p.1 = p1 at *
        clear hr
        go_wp2
        go_round
        case rel => exact ⟨k + 1, by go_num, by omega, HN⟩
        case measure => simp [intOf]; omega
    · have hke : k = l.length := by omega
      subst hke
      have HR : Hid (lookD l r = none) := Lib.hid (look_take (fun i p hp => HI.out i p (List.getElem?_eq_some_iff.1 hp).1 hp))
      go_wp2
      go_ret
      rw [HD.out, HR.out]
      exact ⟨_, rfl, own_nil' _ _, Below.refl _ _⟩
set_option maxHeartbeats 4000000 in
set_option maxRecDepth 100000 in
theorem rdecomp_syl (q : Nat) (D : PD) (r : Int) (w : World) (hr : isSyl r = true) : Calls Tryz.prog 80 #[.pointer (some ⟨q, 0, none⟩), .int .i32 r] w fun e w' => ∃ v', e = .returned v' ∧ OwnPts w.heap.size w' v' (decompOf D r) ∧ Below w.heap.size w w' := by
  have h0 : 44032 ≤ r ∧ r < 55204 := by simpa [isSyl] using hr
  obtain ⟨h1, h2⟩ := h0
  have hv : (r - 44032) % 588 / 28 = (r - 44032) / 28 % 21 := by omega
  by_cases h28 : (r - 44032) % 28 = 0
  · have HD : Hid (decompOf D r = [4352 + (r - 44032) / 588, 4449 + (r - 44032) % 588 / 28]) := Lib.hid (by
      unfold decompOf sylOf
      rw [if_pos hr, hv]
      simp [h28])
    have HO := Lib.hid (ownsRow_laid (e := 21) (base := w.heap.size) (size := 1) (n := 2) w [.int .i32 (4352 + (r - 44032) / 588), .int .i32 (4449 + (r - 44032) % 588 / 28)] (Nat.le_refl _) (by simp [maxLen]) rfl)
    have hb28 : ((r - 44032) % 28 != 0) = false := by rw [h28]; rfl
    clear hv h28
    go_enter Tryz.func80, Tryz.ntmps80
    go_wp2_with (go_at_call 78; (with_reducible refine (syl_calls _ _).mono ?_); rintro e w6 ⟨rfl, hw⟩; subst w6)
    go_ret
    rw [HD.out]
    exact ⟨_, rfl, HO.out, (Below.refl _ w).alloc (Nat.le_refl _) _⟩
  · have HD : Hid (decompOf D r = [4352 + (r - 44032) / 588, 4449 + (r - 44032) % 588 / 28] ++ [4519 + (r - 44032) % 28]) := Lib.hid (by
      unfold decompOf sylOf
      rw [if_pos hr, hv]
      simp [h28])
    have HO : Hid (OwnPts w.heap.size (w.alloc (.cells #[.int .i32 (4352 + (r - 44032) / 588), .int .i32 (4449 + (r - 44032) % 588 / 28)] 21)) (.slice (some ⟨w.heap.size, 0, none⟩) 2 2) [4352 + (r - 44032) / 588, 4449 + (r - 44032) % 588 / 28]) := Lib.hid (ownsRow_laid (e := 21) (base := w.heap.size) (size := 1) (n := 2) w [.int .i32 (4352 + (r - 44032) / 588), .int .i32 (4449 + (r - 44032) % 588 / 28)] (Nat.le_refl _) (by simp [maxLen]) rfl)
    have hb28 : ((r - 44032) % 28 != 0) = true := bne_iff_ne.2 h28
    clear hv h28
    go_enter Tryz.func80, Tryz.ntmps80
    go_wp2_with (first
      | (go_at_call 78; (with_reducible refine (syl_calls _ _).mono ?_); rintro e w6 ⟨rfl, hw⟩; subst w6)
      | (at_builtin; go_must (refine wpList_append_pt rfl _ _ rfl w.heap.size _ [4352 + (r - 44032) / 588, 4449 + (r - 44032) % 588 / 28] rfl HO.out (by rw [World.size_alloc]; rfl) (by simp) (by rw [World.size_alloc]; omega) ?_; intro v2 w2 ho2 hb2)))
    go_ret
    rw [HD.out]
    exact ⟨_, rfl, ho2, ((Below.refl _ w).alloc (Nat.le_refl _) _).trans hb2⟩
theorem rdecomp_calls (q : Nat) (st : St) (r : Int) (hr0 : -2147483648 ≤ r) (hr1 : r ≤ 2147483647) (w : World) (h : RefAt q w st) : Calls Tryz.prog 80 #[.pointer (some ⟨q, 0, none⟩), .int .i32 r] w fun e w' => ∃ v', e = .returned v' ∧ OwnPts w.heap.size w' v' (decompOf st.d r) ∧ Below w.heap.size w w' := by
  by_cases hs : isSyl r = true
  · exact rdecomp_syl q st.d r w hs
  · exact rdecomp_look q st r hr0 hr1 w h (by simpa using hs)
end Go.Proofs.YtfmcadobpgpajaaGreatDoor.Rf
