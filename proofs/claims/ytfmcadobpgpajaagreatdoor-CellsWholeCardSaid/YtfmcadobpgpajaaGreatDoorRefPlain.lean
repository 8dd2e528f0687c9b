/- The reference's lines and their words say the same as the spec's: plain. -/
import Derived.Test.YtfmcadobpgpajaaGreatDoorRefFull
namespace Go.Proofs.YtfmcadobpgpajaaGreatDoor.Rf
open Go Go.RowKit Go.Shelf Go.Proofs.YtfmcadobpgpajaaGreatDoor.Sp Go.Proofs.YtfmcadobpgpajaaGreatDoor.Pr Go.Proofs.YtfmcadobpgpajaaGreatDoor.Rowl
set_option linter.unusedSimpArgs false

def wordsH (l : Bytes) : List Bytes := wordsGo (beforeHash l) []
def doW (s : St) : List Bytes → Int → Except (Int × Int) St
  | [], _ => .ok s
  | l :: ls, k => match doLine s (wordsH l) k with
    | .error e => .error (e, k)
    | .ok s' => doW s' ls (k + 1)
def pcs : Bytes → Bytes → List Bytes
  | cur, [] => [cur]
  | cur, c :: l => if c = 10 then cur :: pcs [] l else pcs (cur ++ [c]) l
theorem pcs_pieces : ∀ (l cur : Bytes), ∃ p ps, pieces 10 l = p :: ps ∧ pcs cur l = (cur ++ p) :: ps
  | [], cur => ⟨[], [], rfl, by simp [pcs]⟩
  | c :: l, cur => by
    by_cases hc : c = 10
    · obtain ⟨p, ps, h1, h2⟩ := pcs_pieces l []
      refine ⟨[], p :: ps, by simp [pieces, hc, h1], ?_⟩
      simp [pcs, hc, h2]
    · obtain ⟨p, ps, h1, h2⟩ := pcs_pieces l (cur ++ [c])
      refine ⟨c :: p, ps, by simp [pieces, hc, h1], ?_⟩
      simp [pcs, hc, h2]
theorem pcs_nil (l : Bytes) : pcs [] l = pieces 10 l := by
  obtain ⟨p, ps, h1, h2⟩ := pcs_pieces l []
  rw [h1, h2]
  rfl
theorem doW_lg : ∀ (l cur : Bytes) (st : St) (k : Int), doW st (lg cur l) k = doLines st (pcs cur l) k
  | [], cur, st, k => by
    by_cases h0 : cur = []
    · subst h0
      rfl
    · rw [lg, if_neg h0, pcs, doW, doLines]
      rfl
  | c :: l, cur, st, k => by
    by_cases hc : c = 10
    · rw [lg, if_pos hc, pcs, if_pos hc, doW, doLines]
      show (match doLine st (wordsOf cur) k with | .error e => _ | .ok s' => doW s' (lg [] l) (k + 1)) = _
      cases hd : doLine st (wordsOf cur) k with
      | error e => rfl
      | ok s' => exact doW_lg l [] s' (k + 1)
    · rw [lg, if_neg hc, pcs, if_neg hc]
      exact doW_lg l _ st k
theorem lg_count : ∀ (l cur : Bytes), cur.getLast? ≠ some 10 → (lg cur l).length = (l.filter (· == 10)).length + (if (cur ++ l) ≠ [] ∧ (cur ++ l).getLast? ≠ some 10 then 1 else 0)
  | [], cur, h => by
    by_cases h0 : cur = []
    · subst h0; simp [lg]
    · rw [lg, if_neg h0, List.append_nil, if_pos ⟨h0, h⟩]
      rfl
  | c :: l, cur, h => by
    by_cases hc : c = 10
    · subst hc
      rw [lg, if_pos rfl, List.length_cons, lg_count l [] (by simp), List.filter_cons_of_pos (by rfl), List.length_cons, List.nil_append]
      have e : (if (cur ++ 10 :: l) ≠ [] ∧ (cur ++ 10 :: l).getLast? ≠ some 10 then 1 else 0) = (if l ≠ [] ∧ l.getLast? ≠ some 10 then 1 else 0) := by
        cases l with
        | nil => simp
        | cons d l => simp [List.getLast?_append, List.getLast?_cons_cons]
      rw [e]
      omega
    · rw [lg, if_neg hc, lg_count l (cur ++ [c]) (by simp [hc]), List.filter_cons_of_neg (by simpa using hc), List.append_assoc, List.singleton_append]
theorem lg_lines (s : Bytes) : (lg [] s).length = lineCount s := by
  rw [lg_count s [] (by simp)]
  rfl
theorem parse_lg (s : Bytes) (h1 : s.length ≤ 1048576) (h2 : (lg [] s).length ≤ 65536) : parse s = match doW {} (lg [] s) 1 with
    | .error (e, k) => .error (e, some k)
    | .ok st => match badLeast st with
      | some (_, e, k) => .error (e, some k)
      | none => .ok st.d := by
  unfold parse
  rw [if_neg (by rw [← lg_lines]; omega), doW_lg, pcs_nil]
  cases doLines {} (pieces 10 s) 1 with
  | error e => rfl
  | ok st => rfl
theorem parse_much (s : Bytes) (h : 1048576 < s.length ∨ 65536 < (lg [] s).length) : parse s = .error (5, none) := by
  unfold parse
  rw [if_pos (by rw [← lg_lines]; exact h)]
/-- No row is longer than there were lines. -/
def Small (st : St) (k : Nat) : Prop := st.d.classes.length ≤ k ∧ st.d.kinds.length ≤ k ∧ st.d.folds.length ≤ k ∧ st.d.decomps.length ≤ k
theorem doLine_small {st st' : St} {w : List Bytes} {line : Int} {k : Nat} (h : Small st k) (hd : doLine st w line = .ok st') : Small st' (k + 1) := by
  obtain ⟨h1, h2, h3, h4⟩ := h
  have hs : Small st (k + 1) := ⟨by omega, by omega, by omega, by omega⟩
  unfold doLine at hd
  split at hd
  · injection hd with hd
    subst hd
    exact hs
  · split at hd
    · unfold doClass at hd
      split at hd
      · cases hd
      · split at hd
        · cases hd
        · injection hd with hd
          subst hd
          exact ⟨by simp; omega, hs.2.1, hs.2.2.1, hs.2.2.2⟩
    · split at hd
      · unfold doKind at hd
        split at hd
        · cases hd
        · split at hd
          · cases hd
          · injection hd with hd
            subst hd
            exact ⟨hs.1, by simp; omega, hs.2.2.1, hs.2.2.2⟩
      · split at hd
        · unfold doFold at hd
          split at hd
          · cases hd
          · cases hd
          · split at hd
            · cases hd
            · injection hd with hd
              subst hd
              exact ⟨hs.1, hs.2.1, by simp; omega, hs.2.2.2⟩
        · split at hd
          · unfold doDecomp at hd
            split at hd
            · cases hd
            · cases hd
            · split at hd
              · cases hd
              · split at hd
                · cases hd
                · injection hd with hd
                  subst hd
                  exact ⟨hs.1, hs.2.1, hs.2.2.1, by simp; omega⟩
          · cases hd
theorem Small.all {st : St} {k : Nat} (h : Small st k) (hk : k ≤ 1048576) : st.d.classes.length ≤ 1048576 ∧ st.d.kinds.length ≤ 1048576 ∧ st.d.folds.length ≤ 1048576 ∧ st.d.decomps.length ≤ 1048576 := by
  obtain ⟨h1, h2, h3, h4⟩ := h
  exact ⟨by omega, by omega, by omega, by omega⟩
theorem doW_cons {st : St} {ls : List Bytes} {i : Nat} {x : Bytes} {k : Int} (h : ls[i]? = some x) : doW st (ls.drop i) k = match doLine st (wordsH x) k with | .error e => .error (e, k) | .ok s' => doW s' (ls.drop (i + 1)) (k + 1) := by
  obtain ⟨hi, e⟩ := List.getElem?_eq_some_iff.1 h
  rw [List.drop_eq_getElem_cons hi, e, doW]
/-- The least bad one among the first. -/
noncomputable def accB (st : St) (i : Nat) : Option (Int × Int × Int) := (st.lines.take i).foldl (badF st.d) none
theorem accB_all (st : St) : accB st st.lines.length = badLeast st := by
  unfold accB
  rw [List.take_of_length_le (Nat.le_refl _)]
  rfl
theorem accB_step {st : St} {i : Nat} {p : Int × Int} (h : st.lines[i]? = some p) : accB st (i + 1) = badF st.d (accB st i) p := by
  unfold accB
  rw [List.take_add_one, h, List.foldl_append]
  rfl
theorem accB_new {st : St} (hok : StOk st) {i : Nat} {p : Int × Int} (h : st.lines[i]? = some p) {x : Int × Int × Int} (ha : accB st i = some x) : x.1 ≠ p.1 ∧ 0 ≤ x.1 := by
  unfold accB at ha
  obtain ⟨k1, _, _⟩ := (bad_fold st.d _ none).2 x ha
  rcases k1 with k1 | ⟨k1, _⟩
  · cases k1
  · obtain ⟨j, hj⟩ := List.mem_iff_getElem?.1 k1
    rw [List.getElem?_take] at hj
    split at hj
    · rename_i hji
      have nd : (st.lines.map (·.1)).Nodup := by rw [hok.keys]; exact hok.nodup
      have e1 : (st.lines.map (·.1))[j]? = some x.1 := by rw [List.getElem?_map, hj]; rfl
      have e2 : (st.lines.map (·.1))[i]? = some p.1 := by rw [List.getElem?_map, h]; rfl
      refine ⟨fun e => ?_, ?_⟩
      · obtain ⟨a1, a2⟩ := List.getElem?_eq_some_iff.1 e1
        obtain ⟨b1, b2⟩ := List.getElem?_eq_some_iff.1 e2
        have := (List.getElem_inj nd).1 (show (st.lines.map (·.1))[j] = (st.lines.map (·.1))[i] by rw [a2, b2, e])
        omega
      · have hm : x.1 ∈ st.d.decomps.map (·.1) := by
          rw [← hok.keys]
          exact List.mem_of_getElem? e1
        obtain ⟨q, hq, e⟩ := List.mem_map.1 hm
        rw [← e]
        exact (char_bounds (hok.chars q hq).1).1
    · cases hj
end Go.Proofs.YtfmcadobpgpajaaGreatDoor.Rf
