/- What the reference answers of points: Class, Kind, Fold. -/
import Derived.Test.YtfmcadobpgpajaaGreatDoorRefLine
namespace Go.Proofs.YtfmcadobpgpajaaGreatDoor.Rf
open Go Go.RowKit Go.Shelf Go.Proofs.YtfmcadobpgpajaaGreatDoor.Sp Go.Proofs.YtfmcadobpgpajaaGreatDoor.Pr Go.Proofs.YtfmcadobpgpajaaGreatDoor.Rowl
set_option linter.unusedSimpArgs false

theorem flatR_at : ∀ {l : List Row} {i : Nat} {x : Row}, l[i]? = some x → (flatR l)[i * 3]? = some (.int .i64 x.lo) ∧ (flatR l)[i * 3 + 1]? = some (.int .i64 x.hi) ∧ (flatR l)[i * 3 + 2]? = some (.int .i64 x.n)
  | y :: l, 0, x, h => by
    simp only [List.getElem?_cons_zero, Option.some.injEq] at h
    subst h
    exact ⟨rfl, rfl, rfl⟩
  | y :: l, i + 1, x, h => by
    obtain ⟨h1, h2, h3⟩ := flatR_at (l := l) (i := i) (x := x) (by simpa using h)
    have e : flatR (y :: l) = [.int .i64 y.lo, .int .i64 y.hi, .int .i64 y.n] ++ flatR l := rfl
    refine ⟨?_, ?_, ?_⟩
    · rw [e, show (i + 1) * 3 = i * 3 + 3 by omega]; simpa using h1
    · rw [e, show (i + 1) * 3 + 1 = i * 3 + 1 + 3 by omega]; simpa using h2
    · rw [e, show (i + 1) * 3 + 2 = i * 3 + 2 + 3 by omega]; simpa using h3
  | [], i, x, h => by simp at h
/-- A row of class or kind, cell for cell. -/
def RowsAt (W : World) (A : Option Addr) (l : List Row) : Prop := ∀ (j : Nat) (x : Row), l[j]? = some x → ∃ g, A = some ⟨g, 0, none⟩ ∧ W.cell? ⟨g, j * 3, none⟩ = some (.int .i64 x.lo) ∧ W.cell? ⟨g, j * 3 + 1, none⟩ = some (.int .i64 x.hi) ∧ W.cell? ⟨g, j * 3 + 2, none⟩ = some (.int .i64 x.n)
theorem rows_at {W : World} {n₀ m : Nat} {fv : Value} {l : List Row} (ho : W.ownsRow n₀ 133 3 fv m (flatR l)) (hl : m = l.length) : ∃ A c, fv = .slice A l.length c ∧ RowsAt W A l := by
  subst hl
  by_cases h0 : 0 < l.length
  · obtain ⟨g, c, rfl, _, _, _, _⟩ := own_some ho h0
    refine ⟨_, c, rfl, fun i p hp => ⟨g, rfl, ?_⟩⟩
    obtain ⟨a1, a2, a3⟩ := flatR_at hp
    have hc := World.ownsRow.cells ho (g := g) rfl
    refine ⟨?_, ?_, ?_⟩
    · have := hc (i * 3) _ a1
      rwa [show ((⟨g, 0, none⟩ : Addr).add (i * 3)) = ⟨g, i * 3, none⟩ by (unfold Addr.add; split <;> simp_all)] at this
    · have := hc (i * 3 + 1) _ a2
      rwa [show ((⟨g, 0, none⟩ : Addr).add (i * 3 + 1)) = ⟨g, i * 3 + 1, none⟩ by (unfold Addr.add; simp)] at this
    · have := hc (i * 3 + 2) _ a3
      rwa [show ((⟨g, 0, none⟩ : Addr).add (i * 3 + 2)) = ⟨g, i * 3 + 2, none⟩ by (unfold Addr.add; simp)] at this
  · have : l = [] := List.eq_nil_of_length_eq_zero (by omega)
    subst this
    obtain ⟨A, c, rfl⟩ := own_slice ho
    exact ⟨A, c, rfl, fun i p hp => by simp at hp⟩
theorem RefAt.classes {q : Nat} {W : World} {st : St} (h : RefAt q W st) : ∃ A c, W.cell? ⟨q, 0, none⟩ = some (.slice A st.d.classes.length c) ∧ RowsAt W A st.d.classes ∧ st.d.classes.length ≤ 1048576 := by
  obtain ⟨⟨n₀, v, xs, n, h1, h2⟩, h3⟩ := h
  obtain ⟨A, c, e, hc⟩ := rows_at (l := st.d.classes) (by rw [← h2.c.1]; exact h1.own 0 (by decide)) h2.c.2
  exact ⟨A, c, by rw [cell_of_row W q 0 _ _ (0, 0) h1.hp, ← e]; rfl, hc, h3.2.1⟩
theorem RefAt.kinds {q : Nat} {W : World} {st : St} (h : RefAt q W st) : ∃ A c, W.cell? ⟨q, 1, none⟩ = some (.slice A st.d.kinds.length c) ∧ RowsAt W A st.d.kinds ∧ st.d.kinds.length ≤ 1048576 := by
  obtain ⟨⟨n₀, v, xs, n, h1, h2⟩, h3⟩ := h
  obtain ⟨A, c, e, hc⟩ := rows_at (l := st.d.kinds) (by rw [← h2.k.1]; exact h1.own 1 (by decide)) h2.k.2
  exact ⟨A, c, by rw [cell_of_row W q 1 _ _ (0, 0) h1.hp, ← e]; rfl, hc, h3.2.2.1⟩
theorem said_hit {l : List Row} {r other : Int} {j : Nat} {x : Row} (h : l[j]? = some x) (hx : x.has r = true) : Sp.said (l.take (j + 1)) r other = x.n := by
  unfold Sp.said
  rw [List.take_add_one, h, List.reverse_append]
  simp [hx]
theorem said_miss {l : List Row} {r other : Int} {j : Nat} {x : Row} (h : l[j]? = some x) (hx : x.has r = false) : Sp.said (l.take (j + 1)) r other = Sp.said (l.take j) r other := by
  unfold Sp.said
  rw [List.take_add_one, h, List.reverse_append]
  simp [hx]
set_option maxHeartbeats 4000000 in
set_option maxRecDepth 100000 in
theorem rsaid_calls (W : World) (A : Option Addr) (c : Nat) (l : List Row) (hl : l.length ≤ 1048576) (h : RowsAt W A l) (r other : Int) (hr0 : -2147483648 ≤ r) (hr1 : r ≤ 2147483647) : Calls Tryz.prog 134 #[.slice A l.length c, .int .i32 r, .int .i64 other] W fun e w' => e = .returned (.int .i64 (Sp.said l r other)) ∧ W = w' := by
  have H := Lib.hid h
  clear h
  go_enter Tryz.func134, Tryz.ntmps134
  go_wp2
  go_loop [7] (fun vi => ∃ i : Int, vi = .int .i64 i ∧ -1 ≤ i ∧ i < l.length ∧ Hid (Sp.said (l.take (i + 1).toNat) r other = Sp.said l r other)) (fun vi => (intOf vi + 1).toNat)
  case atStart => exact ⟨l.length - 1, by go_num, by omega, by omega, Lib.hid (by rw [List.take_of_length_le (by omega)])⟩
  case round =>
    obtain ⟨i, rfl, hi0, hi1, HI⟩ := hrel
    by_cases hge : 0 ≤ i
    · obtain ⟨j, rfl⟩ : ∃ j : Nat, i = j := ⟨i.toNat, by omega⟩
      have hjl : j < l.length := by omega
      obtain ⟨x, hx⟩ : ∃ x, l[j]? = some x := ⟨_, List.getElem?_eq_getElem hjl⟩
      obtain ⟨g, rfl, c0, c1, c2⟩ := H.out j x hx
      have HX := Lib.hid hx
      obtain ⟨lo, hi, n⟩ := x
      simp only at c0 c1 c2
      clear hx
      have hcase : (lo ≤ r ∧ r ≤ hi ∧ (⟨lo, hi, n⟩ : Row).has r = true) ∨ (¬ lo ≤ r ∧ (⟨lo, hi, n⟩ : Row).has r = false) ∨ (lo ≤ r ∧ ¬ r ≤ hi ∧ (⟨lo, hi, n⟩ : Row).has r = false) := by
        unfold Row.has
        by_cases h1 : lo ≤ r <;> by_cases h2 : r ≤ hi <;> simp [h1, h2]
      rcases hcase with ⟨h1, h2, hh⟩ | ⟨h1, hh⟩ | ⟨h1, h2, hh⟩
      · have HR : Hid (Sp.said l r other = n) := Lib.hid (by
          rw [← HI.out, show ((j : Int) + 1).toNat = j + 1 by omega]
          exact said_hit HX.out hh)
        clear hh
        go_wp2
        go_ret
        rw [HR.out]
        exact ⟨rfl, rfl⟩
      · have HN : Hid (Sp.said (l.take ((j : Int) - 1 + 1).toNat) r other = Sp.said l r other) := Lib.hid (by
          rw [← HI.out, show ((j : Int) + 1).toNat = j + 1 by omega, show ((j : Int) - 1 + 1).toNat = j by omega]
          exact (said_miss HX.out hh).symm)
        clear hh
        go_wp2
        go_round
        case rel => exact ⟨(j : Int) - 1, by go_num, by omega, by omega, HN⟩
        case measure => simp [intOf]; try omega
      · have HN : Hid (Sp.said (l.take ((j : Int) - 1 + 1).toNat) r other = Sp.said l r other) := Lib.hid (by
          rw [← HI.out, show ((j : Int) + 1).toNat = j + 1 by omega, show ((j : Int) - 1 + 1).toNat = j by omega]
          exact (said_miss HX.out hh).symm)
        clear hh
        go_wp2
        go_round
        case rel => exact ⟨(j : Int) - 1, by go_num, by omega, by omega, HN⟩
        case measure => simp [intOf]; try omega
    · have hie : i = -1 := by omega
      subst hie
      have HR : Hid (Sp.said l r other = other) := Lib.hid (by rw [← HI.out]; rfl)
      go_wp2
      go_ret
      rw [HR.out]
      exact ⟨rfl, rfl⟩
set_option maxHeartbeats 4000000 in
set_option maxRecDepth 100000 in
theorem rclass_calls (q : Nat) (st : St) (r : Int) (hr0 : -2147483648 ≤ r) (hr1 : r ≤ 2147483647) (w : World) (h : RefAt q w st) : Calls Tryz.prog 104 #[.pointer (some ⟨q, 0, none⟩), .int .i32 r] w fun e w' => e = .returned (.int .i64 (classOf st.d r)) ∧ w = w' := by
  obtain ⟨A, c, hq, hc, hl⟩ := h.classes
  have HS := Lib.hid (rsaid_calls w A c st.d.classes hl hc r 0 hr0 hr1)
  have HC : Hid (classOf st.d r = if !isChar r || isSyl r || isJamo r then 0 else Sp.said st.d.classes r 0) := Lib.hid rfl
  clear h hc
  cases h1 : isChar r with
  | false =>
    go_enter Tryz.func104, Tryz.ntmps104
    go_wp2_with (first | (go_at_call 105; (with_reducible refine (char_calls _ _).mono ?_); rintro e w6 ⟨rfl, hw⟩; subst w6) | (go_at_call 78; (with_reducible refine (syl_calls _ _).mono ?_); rintro e w6 ⟨rfl, hw⟩; subst w6) | (go_at_call 79; (with_reducible refine (jam_calls _ _).mono ?_); rintro e w6 ⟨rfl, hw⟩; subst w6))
    go_ret
    rw [HC.out, h1]
    exact ⟨rfl, rfl⟩
  | true =>
    cases h2 : isSyl r with
    | true =>
      go_enter Tryz.func104, Tryz.ntmps104
      go_wp2_with (first | (go_at_call 105; (with_reducible refine (char_calls _ _).mono ?_); rintro e w6 ⟨rfl, hw⟩; subst w6) | (go_at_call 78; (with_reducible refine (syl_calls _ _).mono ?_); rintro e w6 ⟨rfl, hw⟩; subst w6) | (go_at_call 79; (with_reducible refine (jam_calls _ _).mono ?_); rintro e w6 ⟨rfl, hw⟩; subst w6))
      go_ret
      rw [HC.out, h1, h2]
      exact ⟨rfl, rfl⟩
    | false =>
      cases h3 : isJamo r with
      | true =>
        go_enter Tryz.func104, Tryz.ntmps104
        go_wp2_with (first | (go_at_call 105; (with_reducible refine (char_calls _ _).mono ?_); rintro e w6 ⟨rfl, hw⟩; subst w6) | (go_at_call 78; (with_reducible refine (syl_calls _ _).mono ?_); rintro e w6 ⟨rfl, hw⟩; subst w6) | (go_at_call 79; (with_reducible refine (jam_calls _ _).mono ?_); rintro e w6 ⟨rfl, hw⟩; subst w6))
        go_ret
        rw [HC.out, h1, h2, h3]
        exact ⟨rfl, rfl⟩
      | false =>
        go_enter Tryz.func104, Tryz.ntmps104
        go_wp2_with (first | (go_at_call 105; (with_reducible refine (char_calls _ _).mono ?_); rintro e w6 ⟨rfl, hw⟩; subst w6) | (go_at_call 78; (with_reducible refine (syl_calls _ _).mono ?_); rintro e w6 ⟨rfl, hw⟩; subst w6) | (go_at_call 79; (with_reducible refine (jam_calls _ _).mono ?_); rintro e w6 ⟨rfl, hw⟩; subst w6) | (go_at_call 134; (with_reducible refine HS.out.mono ?_); rintro e w6 ⟨rfl, hw⟩; subst w6))
        go_ret
        rw [HC.out, h1, h2, h3]
        exact ⟨rfl, rfl⟩
set_option maxHeartbeats 4000000 in
set_option maxRecDepth 100000 in
theorem rkind_calls (q : Nat) (st : St) (r : Int) (hr0 : -2147483648 ≤ r) (hr1 : r ≤ 2147483647) (w : World) (h : RefAt q w st) : Calls Tryz.prog 103 #[.pointer (some ⟨q, 0, none⟩), .int .i32 r] w fun e w' => e = .returned (.int .i64 (kindOf st.d r)) ∧ w = w' := by
  obtain ⟨A, c, hq, hc, hl⟩ := h.kinds
  have HS := Lib.hid (fun other => rsaid_calls w A c st.d.kinds hl hc r other hr0 hr1)
  have HC : Hid (kindOf st.d r = if !isChar r then 0 else if isSyl r then Sp.said st.d.kinds r 1 else Sp.said st.d.kinds r 0) := Lib.hid rfl
  clear h hc
  cases h1 : isChar r with
  | false =>
    go_enter Tryz.func103, Tryz.ntmps103
    go_wp2_with (first | (go_at_call 105; (with_reducible refine (char_calls _ _).mono ?_); rintro e w6 ⟨rfl, hw⟩; subst w6) | (go_at_call 78; (with_reducible refine (syl_calls _ _).mono ?_); rintro e w6 ⟨rfl, hw⟩; subst w6))
    go_ret
    rw [HC.out, h1]
    exact ⟨rfl, rfl⟩
  | true =>
    cases h2 : isSyl r
    all_goals
      go_enter Tryz.func103, Tryz.ntmps103
      go_wp2_with (first | (go_at_call 105; (with_reducible refine (char_calls _ _).mono ?_); rintro e w6 ⟨rfl, hw⟩; subst w6) | (go_at_call 78; (with_reducible refine (syl_calls _ _).mono ?_); rintro e w6 ⟨rfl, hw⟩; subst w6) | (go_at_call 134; (with_reducible refine (HS.out _).mono ?_); rintro e w6 ⟨rfl, hw⟩; subst w6))
      go_ret
      rw [HC.out, h1, h2]
      exact ⟨rfl, rfl⟩
end Go.Proofs.YtfmcadobpgpajaaGreatDoor.Rf
