/- The reference: does one of these lines speak of a point? The walk. -/
import Derived.Test.YtikpkjpnehkbfaaGreatDoorRefRanged
namespace Go.Proofs.YtikpkjpnehkbfaaGreatDoor.Rf
open Go Go.RowKit Go.Shelf Go.Proofs.YtikpkjpnehkbfaaGreatDoor.Sp Go.Proofs.YtikpkjpnehkbfaaGreatDoor.Pr Go.Proofs.YtikpkjpnehkbfaaGreatDoor.Rowl
set_option linter.unusedSimpArgs false

/-- The cells of a row of lines. -/
theorem line_cells {W : World} {n₀ : Nat} {fv : Value} {m : Nat} {ys : List Value} {l : List (Int × List Int)} {ks : List Int} (ho : W.ownsRow n₀ 147 3 fv m ys) (hm : LinesMean W ys l ks) (hl : m = l.length) :
    ∃ A c, fv = .slice A l.length c ∧ ∀ (i : Nat) (p : Int × List Int), l[i]? = some p → ∃ g, A = some ⟨g, 0, none⟩ ∧ ∃ tv k, W.cell? ⟨g, i * 3, none⟩ = some (.int .i64 p.1) ∧ W.cell? ⟨g, i * 3 + 1, none⟩ = some tv ∧ W.cell? ⟨g, i * 3 + 2, none⟩ = some (.int .i64 k) ∧ ks[i]? = some k ∧ PtsB W tv p.2 := by
  subst hl
  by_cases h0 : 0 < l.length
  · obtain ⟨g, c, rfl, _, _, _, _⟩ := own_some ho h0
    refine ⟨_, c, rfl, fun i p hp => ⟨g, rfl, ?_⟩⟩
    obtain ⟨tv, k, a1, a2, a3, a4, a5⟩ := hm.at i p hp
    have hc := World.ownsRow.cells ho (g := g) rfl
    refine ⟨tv, k, ?_, ?_, ?_, a4, a5⟩
    · have := hc (i * 3) _ a1
      rwa [show ((⟨g, 0, none⟩ : Addr).add (i * 3)) = ⟨g, i * 3, none⟩ by (unfold Addr.add; split <;> simp_all)] at this
    · have := hc (i * 3 + 1) _ a2
      rwa [show ((⟨g, 0, none⟩ : Addr).add (i * 3 + 1)) = ⟨g, i * 3 + 1, none⟩ by (unfold Addr.add; simp)] at this
    · have := hc (i * 3 + 2) _ a3
      rwa [show ((⟨g, 0, none⟩ : Addr).add (i * 3 + 2)) = ⟨g, i * 3 + 2, none⟩ by (unfold Addr.add; simp)] at this
  · have : l = [] := List.eq_nil_of_length_eq_zero (by omega)
    subst this
    obtain ⟨A, c, rfl⟩ := own_slice ho
    exact ⟨A, c, rfl, fun i p hp => by simp at hp⟩
theorem look_take {l : List (Int × List Int)} {r : Int} (h : ∀ (i : Nat) (p : Int × List Int), l[i]? = some p → p.1 ≠ r) : lookD l r = none := by
  rw [lookD_none]
  intro hm
  obtain ⟨p, hp, e⟩ := List.mem_map.1 hm
  obtain ⟨i, hi⟩ := List.mem_iff_getElem?.1 hp
  exact h i p hi e
theorem look_hit {l : List (Int × List Int)} {r : Int} {i : Nat} {p : Int × List Int} (h : l[i]? = some p) (e : p.1 = r) : (lookD l r).isSome = true := by
  cases hl : lookD l r with
  | some _ => rfl
  | none => exact absurd (List.mem_map.2 ⟨p, List.mem_of_getElem? h, e⟩) (lookD_none.1 hl)
set_option maxHeartbeats 4000000 in
set_option maxRecDepth 100000 in
theorem spoken_calls {W : World} {n₀ : Nat} {fv : Value} {m : Nat} {ys : List Value} {l : List (Int × List Int)} {ks : List Int} (r : Int) (ho : W.ownsRow n₀ 147 3 fv m ys) (hm : LinesMean W ys l ks) (hl : m = l.length) :
    Calls Tryz.prog 130 #[fv, .int .i64 r] W fun e w' => e = .returned (.bool (lookD l r).isSome) ∧ W = w' := by
  obtain ⟨A, c, rfl, hc⟩ := line_cells ho hm hl
  have hlen := own_len ho
  rw [hl] at hlen
  unfold maxLen at hlen
  have HC := Lib.hid hc
  clear hc ho hm hl
  go_enter Tryz.func130, Tryz.ntmps130
  go_wp2
  go_loop [5] (fun vi => ∃ k : Nat, vi = .int .i64 k ∧ k ≤ l.length ∧ Hid (∀ (i : Nat) (p : Int × List Int), i < k → l[i]? = some p → p.1 ≠ r)) (fun vi => l.length - (intOf vi).toNat)
  case atStart => exact ⟨0, rfl, by omega, Lib.hid (fun i p hi => by omega)⟩
  case round =>
    obtain ⟨k, rfl, hk, HI⟩ := hrel
    by_cases hlt : k < l.length
    · obtain ⟨p, hp⟩ : ∃ p, l[k]? = some p := ⟨_, List.getElem?_eq_getElem hlt⟩
      obtain ⟨g, rfl, tv, kk, c0, _, _, _, _⟩ := HC.out k p hp
      have HP := Lib.hid hp
      clear hp
      obtain ⟨p1, p2⟩ := p
      simp only at c0
      by_cases hr : p1 = r
      · have hb : (p1 == r) = true := beq_iff_eq.2 hr
        have HR : Hid ((lookD l r).isSome = true) := Lib.hid (look_hit HP.out hr)
        clear hr
        go_wp2
        go_ret
        rw [HR.out]
        exact ⟨rfl, rfl⟩
      · have hb : (p1 == r) = false := beq_eq_false_iff_ne.2 hr
        have HN : Hid (∀ (i : Nat) (p : Int × List Int), i < k + 1 → l[i]? = some p → p.1 ≠ r) := Lib.hid (fun i p hi hp => by
          by_cases hik : i < k
          · exact HI.out i p hik hp
          · have : i = k := by omega
            subst this
            rw [HP.out] at hp
            injection hp with hp
            subst hp
            exact hr)
        clear hr
        go_wp2
        go_round
        case rel => exact ⟨k + 1, by go_num, by omega, HN⟩
        case measure => simp [intOf]; omega
    · have hke : k = l.length := by omega
      subst hke
      have HR : Hid ((lookD l r).isSome = false) := Lib.hid (by rw [look_take (fun i p hp => HI.out i p (List.getElem?_eq_some_iff.1 hp).1 hp)]; rfl)
      go_wp2
      go_ret
      rw [HR.out]
      exact ⟨rfl, rfl⟩
end Go.Proofs.YtikpkjpnehkbfaaGreatDoor.Rf
