/- The errors of a file of properties: their numbers are those of the package api, their lines begin with 1. -/
import Derived.Test.YtfmcadobpgpajaaGreatDoorBPlain
namespace Go.Proofs.YtfmcadobpgpajaaGreatDoor.Sp
theorem point_e {w : Bytes} {k : Int} (h : pointOf w = .error k) : 1 ≤ k ∧ k ≤ 25 := by
  unfold pointOf at h
  split at h
  · simp only [Except.error.injEq] at h; omega
  · split at h
    · cases h
    · simp only [Except.error.injEq] at h; omega
theorem span_e {l : Bytes} {k : Int} (h : spanOf l = .error k) : 1 ≤ k ∧ k ≤ 25 := by
  unfold spanOf at h
  simp only at h
  split at h
  · split at h
    · split at h
      · simp only [Except.error.injEq] at h; omega
      · cases h
    · simp only [Except.error.injEq] at h; omega
  · simp only [Except.error.injEq] at h; omega
theorem class_e {l : Bytes} {k : Int} (h : classNo l = .error k) : 1 ≤ k ∧ k ≤ 25 := by
  unfold classNo at h
  split at h
  · split at h
    · injection h with h; omega
    · cases h
  · injection h with h; omega
theorem points_e : ∀ {l : List Bytes} {k : Int}, pointsOf l = .error k → 1 ≤ k ∧ k ≤ 25
  | [], k, h => by simp [pointsOf] at h
  | w :: l, k, h => by
    simp only [pointsOf] at h
    cases hp : pointOf w with
    | error e => rw [hp] at h; injection h with h; subst h; exact point_e hp
    | ok n =>
      rw [hp] at h
      simp only at h
      cases hq : pointsOf l with
      | error e => rw [hq] at h; injection h with h; subst h; exact points_e hq
      | ok ns => rw [hq] at h; cases h
theorem three_e {w : List Bytes} {k : Int} (h : threeOf w = .error k) : 1 ≤ k ∧ k ≤ 25 := by
  unfold threeOf at h
  split at h
  · injection h with h; omega
  · split at h
    · injection h with h; omega
    · exact span_e h
theorem some_e {w : List Bytes} {k : Int} (h : someOf w = .error k) : 1 ≤ k ∧ k ≤ 25 := by
  unfold someOf at h
  split at h
  · injection h with h; omega
  · split at h
    · injection h with h; omega
    · exact points_e h
theorem line_e {st : St} {w : List Bytes} {n k : Int} (h : doLine st w n = .error k) : 1 ≤ k ∧ k ≤ 25 := by
  unfold doLine at h
  split at h
  · cases h
  · split at h
    · unfold doClass at h
      split at h
      · rename_i e; injection h with h; subst h; exact three_e e
      · split at h
        · rename_i e; injection h with h; subst h; exact class_e e
        · cases h
    · split at h
      · unfold doKind at h
        split at h
        · rename_i e; injection h with h; subst h; exact three_e e
        · split at h
          · injection h with h; omega
          · cases h
      · split at h
        · unfold doFold at h
          split at h
          · rename_i e; injection h with h; subst h; exact some_e e
          · injection h with h; omega
          · split at h
            · injection h with h; omega
            · cases h
        · split at h
          · unfold doDecomp at h
            split at h
            · rename_i e; injection h with h; subst h; exact some_e e
            · injection h with h; omega
            · split at h
              · injection h with h; omega
              · split at h
                · injection h with h; omega
                · cases h
          · injection h with h; omega
theorem line_keeps {st st' : St} {w : List Bytes} {n : Int} (h : doLine st w n = .ok st') : ∀ p ∈ st'.lines, p ∈ st.lines ∨ p.2 = n := by
  unfold doLine at h
  split at h
  · injection h with h; subst h; exact fun p hp => .inl hp
  · split at h
    · unfold doClass at h
      split at h
      · cases h
      · split at h
        · cases h
        · injection h with h; subst h; exact fun p hp => .inl hp
    · split at h
      · unfold doKind at h
        split at h
        · cases h
        · split at h
          · cases h
          · injection h with h; subst h; exact fun p hp => .inl hp
      · split at h
        · unfold doFold at h
          split at h
          · cases h
          · cases h
          · split at h
            · cases h
            · injection h with h; subst h; exact fun p hp => .inl hp
        · split at h
          · unfold doDecomp at h
            split at h
            · cases h
            · cases h
            · split at h
              · cases h
              · split at h
                · cases h
                · injection h with h; subst h
                  intro p hp
                  simp only [List.mem_append, List.mem_singleton] at hp
                  rcases hp with hp | rfl
                  · exact .inl hp
                  · exact .inr rfl
          · cases h
theorem lines_e : ∀ {ls : List Bytes} {st : St} {n : Int} {x : Int × Int}, 1 ≤ n → doLines st ls n = .error x → (1 ≤ x.1 ∧ x.1 ≤ 25) ∧ 1 ≤ x.2
  | [], st, n, x, hn, h => by cases h
  | l :: ls, st, n, x, hn, h => by
    simp only [doLines] at h
    cases hl : doLine st (wordsOf l) n with
    | error e => rw [hl] at h; injection h with h; subst h; exact ⟨line_e hl, hn⟩
    | ok s => rw [hl] at h; exact lines_e (by omega) h
theorem lines_k : ∀ {ls : List Bytes} {st st' : St} {n : Int}, 1 ≤ n → (∀ p ∈ st.lines, 1 ≤ p.2) → doLines st ls n = .ok st' → ∀ p ∈ st'.lines, 1 ≤ p.2
  | [], st, st', n, hn, hs, h => by simp only [doLines] at h; injection h with h; subst h; exact hs
  | l :: ls, st, st', n, hn, hs, h => by
    simp only [doLines] at h
    cases hl : doLine st (wordsOf l) n with
    | error e => rw [hl] at h; cases h
    | ok s =>
      rw [hl] at h
      refine lines_k (by omega) (fun p hp => ?_) h
      rcases line_keeps hl p hp with h1 | h1
      · exact hs p h1
      · omega
theorem bad_e {st : St} {x : Int × Int × Int} (hs : ∀ p ∈ st.lines, 1 ≤ p.2) (h : badLeast st = some x) : (1 ≤ x.2.1 ∧ x.2.1 ≤ 25) ∧ 1 ≤ x.2.2 := by
  obtain ⟨k1, _, _⟩ := (bad_fold st.d st.lines none).2 x h
  rcases k1 with k1 | ⟨k0, k1⟩
  · cases k1
  · refine ⟨?_, hs (x.1, x.2.2) k0⟩
    unfold badOf at k1
    split at k1
    · cases k1
    · split at k1
      · injection k1 with k1; omega
      · injection k1 with k1; omega
theorem parse_e {s : Bytes} {k : Int} {o : Option Int} (h : parse s = .error (k, o)) : (1 ≤ k ∧ k ≤ 25) ∧ ∀ l, o = some l → 1 ≤ l := by
  unfold parse at h
  split at h
  · injection h with h; injection h with h h'; subst h'; exact ⟨by omega, fun l e => by cases e⟩
  · cases hd : doLines {} (pieces 10 s) 1 with
    | error x =>
      rw [hd] at h
      injection h with h
      injection h with h h'
      subst h
      have := lines_e (Int.le_refl 1) hd
      exact ⟨this.1, fun l e => by rw [← h'] at e; injection e with e; subst e; exact this.2⟩
    | ok st =>
      rw [hd] at h
      simp only at h
      cases hb : badLeast st with
      | none => rw [hb] at h; cases h
      | some x =>
        obtain ⟨x1, x2, x3⟩ := x
        rw [hb] at h
        injection h with h
        injection h with h h'
        subst h
        have := bad_e (lines_k (Int.le_refl 1) (fun p hp => by cases hp) hd) hb
        exact ⟨this.1, fun l e => by rw [← h'] at e; injection e with e; subst e; exact this.2⟩
end Go.Proofs.YtfmcadobpgpajaaGreatDoor.Sp
