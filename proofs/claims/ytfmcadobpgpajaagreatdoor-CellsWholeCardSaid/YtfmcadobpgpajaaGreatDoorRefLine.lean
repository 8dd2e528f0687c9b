/- The reference's lines, each by its kind: what stands behind it in memory. -/
import Derived.Test.YtfmcadobpgpajaaGreatDoorRefPlain
namespace Go.Proofs.YtfmcadobpgpajaaGreatDoor.Rf
open Go Go.RowKit Go.Shelf Go.Proofs.YtfmcadobpgpajaaGreatDoor.Sp Go.Proofs.YtfmcadobpgpajaaGreatDoor.Pr Go.Proofs.YtfmcadobpgpajaaGreatDoor.Rowl
set_option linter.unusedSimpArgs false

def RefSt (q n₀ : Nat) (W : World) (st : St) : Prop := ∃ v xs n, Ref4 q n₀ W v xs n ∧ Means W xs n st
theorem RefSt.on {q n₀ : Nat} {W W' : World} {st : St} (h : RefSt q n₀ W st) (hb : Below W.heap.size W W') : RefSt q n₀ W' st := by
  obtain ⟨v, xs, n, h1, h2⟩ := h
  exact ⟨v, xs, n, h1.later hb, h2.later hb⟩
def LineOut (q n₀ : Nat) (o : Except Int St) (w : World) (e : Ending) (w' : World) : Prop := match o with
  | .ok st' => e = .returned (.int .i64 0) ∧ RefSt q n₀ w' st' ∧ Fr q n₀ w w'
  | .error k => e = .returned (.int .i64 k) ∧ 0 < k ∧ Below w.heap.size w w'
theorem flatR_snoc (l : List Row) (x : Row) : flatR (l ++ [x]) = flatR l ++ rowC x := by simp [flatR]
section
variable {q n₀ : Nat} {W W' : World} {v : Nat → Value} {xs : Nat → List Value} {n : Nat → Nat} {st : St}
theorem Put.class' (h : Ref4 q n₀ W v xs n) (hm : Means W xs n st) {x : Row} (hp : Put q n₀ 0 v xs n (rowC x) W W') : RefSt q n₀ W' { st with d := { st.d with classes := st.d.classes ++ [x] } } ∧ Fr q n₀ W W' := by
  obtain ⟨v', h1, h2⟩ := hp
  have m2 := hm.map (fun tv ps ht => h2.pts ⟨_, h.hp⟩ ht)
  refine ⟨⟨_, _, _, h1, ⟨?_, ?_⟩, ?_, ?_, ?_⟩, h2⟩
  · rw [upd_same, m2.c.1, flatR_snoc]
  · rw [upd_same, m2.c.2]; simp
  · rw [upd_other _ _ (by decide), upd_other _ _ (by decide)]; exact m2.k
  · rw [upd_other _ _ (by decide), upd_other _ _ (by decide)]; exact m2.f
  · rw [upd_other _ _ (by decide), upd_other _ _ (by decide)]; exact m2.d
theorem Put.kind' (h : Ref4 q n₀ W v xs n) (hm : Means W xs n st) {x : Row} (hp : Put q n₀ 1 v xs n (rowC x) W W') : RefSt q n₀ W' { st with d := { st.d with kinds := st.d.kinds ++ [x] } } ∧ Fr q n₀ W W' := by
  obtain ⟨v', h1, h2⟩ := hp
  have m2 := hm.map (fun tv ps ht => h2.pts ⟨_, h.hp⟩ ht)
  refine ⟨⟨_, _, _, h1, ?_, ⟨?_, ?_⟩, ?_, ?_⟩, h2⟩
  · rw [upd_other _ _ (by decide), upd_other _ _ (by decide)]; exact m2.c
  · rw [upd_same, m2.k.1, flatR_snoc]
  · rw [upd_same, m2.k.2]; simp
  · rw [upd_other _ _ (by decide), upd_other _ _ (by decide)]; exact m2.f
  · rw [upd_other _ _ (by decide), upd_other _ _ (by decide)]; exact m2.d
theorem Put.fold' (h : Ref4 q n₀ W v xs n) (hm : Means W xs n st) {r k : Int} {ps : List Int} {tv : Value} (ht : PtsB W' tv ps) (hp : Put q n₀ 2 v xs n [.int .i64 r, tv, .int .i64 k] W W') : RefSt q n₀ W' { st with d := { st.d with folds := st.d.folds ++ [(r, ps)] } } ∧ Fr q n₀ W W' := by
  obtain ⟨v', h1, h2⟩ := hp
  have m2 := hm.map (fun tv ps ht => h2.pts ⟨_, h.hp⟩ ht)
  refine ⟨⟨_, _, _, h1, ?_, ?_, ⟨?_, ?_⟩, ?_⟩, h2⟩
  · rw [upd_other _ _ (by decide), upd_other _ _ (by decide)]; exact m2.c
  · rw [upd_other _ _ (by decide), upd_other _ _ (by decide)]; exact m2.k
  · rw [upd_same]
    obtain ⟨ks, hk⟩ := m2.f.1
    exact ⟨ks ++ [k], hk.snoc ht⟩
  · rw [upd_same, m2.f.2]; simp
  · rw [upd_other _ _ (by decide), upd_other _ _ (by decide)]; exact m2.d
theorem Put.decomp' (h : Ref4 q n₀ W v xs n) (hm : Means W xs n st) {r k : Int} {ps : List Int} {tv : Value} (ht : PtsB W' tv ps) (hp : Put q n₀ 3 v xs n [.int .i64 r, tv, .int .i64 k] W W') : RefSt q n₀ W' { d := { st.d with decomps := st.d.decomps ++ [(r, ps)] }, lines := st.lines ++ [(r, k)] } ∧ Fr q n₀ W W' := by
  obtain ⟨v', h1, h2⟩ := hp
  have m2 := hm.map (fun tv ps ht => h2.pts ⟨_, h.hp⟩ ht)
  refine ⟨⟨_, _, _, h1, ?_, ?_, ?_, ⟨?_, ?_⟩⟩, h2⟩
  · rw [upd_other _ _ (by decide), upd_other _ _ (by decide)]; exact m2.c
  · rw [upd_other _ _ (by decide), upd_other _ _ (by decide)]; exact m2.k
  · rw [upd_other _ _ (by decide), upd_other _ _ (by decide)]; exact m2.f
  · rw [upd_same]
    simp only [List.map_append, List.map_cons, List.map_nil]
    exact m2.d.1.snoc ht
  · rw [upd_same, m2.d.2]; simp
end
theorem class_err {l : Bytes} {k : Int} (h : classNo l = .error k) : 0 < k := by
  unfold classNo at h
  split at h
  · split at h
    · injection h with h; omega
    · cases h
  · injection h with h; omega
theorem three_lists {α : Type} {l : List α} (h : l.length = 3) : ∃ a b c, l = [a, b, c] := by
  match l, h with
  | [a, b, c], _ => exact ⟨a, b, c, rfl⟩
theorem wl_at' {ws : List ByteArray} {i : Nat} {s : ByteArray} (h : ws[i]? = some s) : (wl ws)[i]? = some s.data.toList := by unfold wl; rw [List.getElem?_map, h]; rfl
theorem doLine_name {st : St} {w : List Bytes} {x : Bytes} {line : Int} (h : w[0]? = some x) : doLine st w line = if x = nameClass then doClass st w else if x = nameKind then doKind st w else if x = nameFold then doFold st w else if x = nameDecomp then doDecomp st w line else .error 12 := by
  cases w with
  | nil => simp at h
  | cons a w =>
    simp only [List.getElem?_cons_zero, Option.some.injEq] at h
    subst h
    rfl
theorem ranged_all (q n₀ : Nat) (st : St) (w : World) (h : RefSt q n₀ w st) (hn₀ : n₀ ≤ w.heap.size) (hsm : st.d.classes.length ≤ 1048576 ∧ st.d.kinds.length ≤ 1048576) (KT : KindsAt w) (ws : List ByteArray) (hws : ∀ x ∈ ws, x.size ≤ 1048576) (b off c : Nat)
    (hc : ∀ i s, ws[i]? = some s → w.cell? ⟨b, off + i, none⟩ = some (.string s)) (s0 : ByteArray) (hs0 : ws[0]? = some s0) (isK : Bool) (hk : s0.data.toList = if isK then nameKind else nameClass) (line : Int) :
    Calls Tryz.prog 47 #[.pointer (some ⟨q, 0, none⟩), .slice (some ⟨b, off, none⟩) ws.length c] w fun e w' => LineOut q n₀ (doLine st (wl ws) line) w e w' := by
  have hd : doLine st (wl ws) line = if isK then doKind st (wl ws) else doClass st (wl ws) := by
    rw [doLine_name (wl_at' hs0), hk]
    cases isK <;> rfl
  rw [hd]
  by_cases h3 : ws.length < 3
  · have ht : threeOf (wl ws) = .error 2 := by unfold threeOf; rw [if_pos (by rw [wl_length]; exact h3)]
    refine (ranged_few q _ _ c w h3).mono ?_
    rintro e w' ⟨rfl, hb⟩
    cases isK
    · show LineOut _ _ (doClass st (wl ws)) _ _ _
      unfold doClass
      rw [ht]
      exact ⟨rfl, by decide, hb⟩
    · show LineOut _ _ (doKind st (wl ws)) _ _ _
      unfold doKind
      rw [ht]
      exact ⟨rfl, by decide, hb⟩
  by_cases h4 : 3 < ws.length
  · have ht : threeOf (wl ws) = .error 3 := by unfold threeOf; rw [if_neg (by rw [wl_length]; exact h3), if_pos (by rw [wl_length]; exact h4)]
    refine (ranged_lots q _ _ c w h4).mono ?_
    rintro e w' ⟨rfl, hb⟩
    cases isK
    · show LineOut _ _ (doClass st (wl ws)) _ _ _
      unfold doClass
      rw [ht]
      exact ⟨rfl, by decide, hb⟩
    · show LineOut _ _ (doKind st (wl ws)) _ _ _
      unfold doKind
      rw [ht]
      exact ⟨rfl, by decide, hb⟩
  obtain ⟨a0, s1, s2, rfl⟩ := three_lists (show ws.length = 3 by omega)
  simp only [List.getElem?_cons_zero, Option.some.injEq] at hs0
  subst hs0
  have c0 : w.cell? ⟨b, off, none⟩ = some (.string a0) := hc 0 a0 rfl
  have c1 : w.cell? ⟨b, off + 1, none⟩ = some (.string s1) := hc 1 s1 rfl
  have c2 : w.cell? ⟨b, off + 2, none⟩ = some (.string s2) := hc 2 s2 rfl
  have z1 := hws s1 (by simp)
  have z2 := hws s2 (by simp)
  have ht : threeOf (wl [a0, s1, s2]) = spanOf s1.data.toList := rfl
  have hg : (wl [a0, s1, s2]).getD 2 [] = s2.data.toList := rfl
  obtain ⟨v, xs, n, h1, h2⟩ := h
  cases hsp : spanOf s1.data.toList with
  | error k =>
    refine (ranged_span q w b off c s1 z1 c1 k hsp).mono ?_
    rintro e w' ⟨rfl, hb⟩
    cases isK
    · show LineOut _ _ (doClass st _) _ _ _
      unfold doClass
      rw [ht, hsp]
      exact ⟨rfl, span_err hsp, hb⟩
    · show LineOut _ _ (doKind st _) _ _ _
      unfold doKind
      rw [ht, hsp]
      exact ⟨rfl, span_err hsp, hb⟩
  | ok p =>
    obtain ⟨lo, hi⟩ := p
    cases isK
    · have hkb : (a0.toList == [107, 105, 110, 100]) = false := by rw [Lib.toList_data, hk]; rfl
      have hdo : doClass st (wl [a0, s1, s2]) = match classNo s2.data.toList with | .error e => .error e | .ok n => .ok { st with d := { st.d with classes := st.d.classes ++ [⟨lo, hi, n⟩] } } := by
        unfold doClass
        rw [ht, hsp, hg]
        cases classNo s2.data.toList <;> rfl
      show Calls _ _ _ _ fun e w' => LineOut q n₀ (doClass st (wl [a0, s1, s2])) w e w'
      rw [hdo]
      cases hcn : classNo s2.data.toList with
      | error k =>
        refine (ranged_number q w b off c a0 s1 s2 z1 z2 c0 c1 c2 hkb lo hi hsp k hcn).mono ?_
        rintro e w' ⟨rfl, hb⟩
        exact ⟨rfl, class_err hcn, hb⟩
      | ok m =>
        rcases class_cases s2.data.toList with ⟨m', y1, y2, y3, y4, y5, y6⟩ | ⟨_, _, y⟩ | ⟨_, _, _, y⟩ | ⟨_, _, _, _, y⟩ | ⟨_, _, _, _, y⟩
        · rw [hcn] at y6
          rw [← Lib.size_eq] at y1 y2 y6
          by_cases h48 : 1 < s2.size ∧ s2.data.toList.head? = some 48
          · rw [if_pos h48] at y6; cases y6
          · rw [if_neg h48] at y6
            by_cases h254 : 254 < m'
            · rw [if_pos h254] at y6; cases y6
            · rw [if_neg h254] at y6
              injection y6 with y6
              subst y6
              have h48' : s2.size ≤ 1 ∨ (1 < s2.size ∧ ∃ h : 0 < s2.size, s2[0] ≠ 48) := by
                by_cases hs1 : s2.size ≤ 1
                · exact .inl hs1
                · have hp : 0 < s2.size := by omega
                  refine .inr ⟨by omega, hp, fun e => h48 ⟨by omega, ?_⟩⟩
                  rw [head_at s2 hp, e]
              refine (ranged_class q n₀ v xs n w h1 hn₀ (by rw [h2.c.2]; exact hsm.1) b off c a0 s1 s2 z1 y1 c0 c1 c2 hkb lo hi hsp m' y5 (by omega) h48').mono ?_
              rintro e w' ⟨rfl, hp⟩
              exact ⟨rfl, Put.class' h1 h2 hp⟩
        all_goals (rw [hcn] at y; cases y)
    · have hkb : (a0.toList == [107, 105, 110, 100]) = true := by rw [Lib.toList_data, hk]; rfl
      have hdo : doKind st (wl [a0, s1, s2]) = match kindNames.idxOf? s2.data.toList with | none => .error 12 | some n => .ok { st with d := { st.d with kinds := st.d.kinds ++ [⟨lo, hi, n⟩] } } := by
        unfold doKind
        rw [ht, hsp, hg]
        cases kindNames.idxOf? s2.data.toList <;> rfl
      show Calls _ _ _ _ fun e w' => LineOut q n₀ (doKind st (wl [a0, s1, s2])) w e w'
      rw [hdo]
      refine (ranged_kind q n₀ v xs n w h1 hn₀ (by rw [h2.k.2]; exact hsm.2) b off c a0 s1 s2 z1 c0 c1 c2 hkb lo hi hsp KT _ rfl).mono ?_
      rintro e w' (⟨kk, ho, rfl, hp⟩ | ⟨ho, rfl, hb⟩)
      · rw [ho]
        exact ⟨rfl, Put.kind' h1 h2 hp⟩
      · rw [ho]
        exact ⟨rfl, by decide, hb⟩
theorem points_err : ∀ {l : List Bytes} {k : Int}, pointsOf l = .error k → 0 < k
  | [], k, h => by simp [pointsOf] at h
  | w :: l, k, h => by
    simp only [pointsOf] at h
    cases hp : pointOf w with
    | error e => rw [hp] at h; injection h with h; subst h; exact err_pos hp
    | ok n =>
      rw [hp] at h
      simp only at h
      cases hq : pointsOf l with
      | error e => rw [hq] at h; injection h with h; subst h; exact points_err hq
      | ok ns => rw [hq] at h; cases h
theorem single_err {isF : Bool} {F D : List (Int × List Int)} {ws : List Bytes} {k : Int} (h : singleOf isF F D ws = .error k) : 0 < k := by
  unfold singleOf at h
  cases hp : pointsOf ws.tail with
  | error e => rw [hp] at h; injection h with h; subst h; exact points_err hp
  | ok l =>
    rw [hp] at h
    cases l with
    | nil => injection h with h; omega
    | cons r ps =>
      simp only at h
      cases isF
      · simp only [Bool.false_eq_true, if_false] at h
        split at h
        · injection h with h; omega
        · split at h
          · injection h with h; omega
          · cases h
      · simp only [if_true] at h
        split at h
        · injection h with h; omega
        · cases h
theorem some_points {w : List Bytes} (h3 : 3 ≤ w.length) (h10 : w.length ≤ 10) : someOf w = pointsOf w.tail := by
  unfold someOf
  rw [if_neg (by omega), if_neg (by omega)]
theorem single_fold {st : St} {w : List Bytes} (h3 : 3 ≤ w.length) (h10 : w.length ≤ 10) : doFold st w = match singleOf true st.d.folds st.d.decomps w with | .error e => .error e | .ok p => .ok { st with d := { st.d with folds := st.d.folds ++ [p] } } := by
  unfold doFold singleOf
  rw [some_points h3 h10]
  cases pointsOf w.tail with
  | error e => rfl
  | ok l =>
    cases l with
    | nil => rfl
    | cons r ps =>
      simp only [if_true]
      split <;> rfl
theorem single_decomp {st : St} {w : List Bytes} {line : Int} (h3 : 3 ≤ w.length) (h10 : w.length ≤ 10) : doDecomp st w line = match singleOf false st.d.folds st.d.decomps w with | .error e => .error e | .ok p => .ok { d := { st.d with decomps := st.d.decomps ++ [p] }, lines := st.lines ++ [(p.1, line)] } := by
  unfold doDecomp singleOf
  rw [some_points h3 h10]
  cases pointsOf w.tail with
  | error e => rfl
  | ok l =>
    cases l with
    | nil => rfl
    | cons r ps =>
      simp only [Bool.false_eq_true, if_false]
      split
      · rfl
      · split <;> rfl
theorem single_all (q n₀ : Nat) (st : St) (w : World) (h : RefSt q n₀ w st) (hn₀ : n₀ ≤ w.heap.size) (hsm : st.d.folds.length ≤ 1048576 ∧ st.d.decomps.length ≤ 1048576) (ws : List ByteArray) (hws : ∀ x ∈ ws, x.size ≤ 1048576) (b off c : Nat)
    (hc : ∀ i s, ws[i]? = some s → w.cell? ⟨b, off + i, none⟩ = some (.string s)) (s0 : ByteArray) (hs0 : ws[0]? = some s0) (isF : Bool) (hk : s0.data.toList = if isF then nameFold else nameDecomp) (line : Int) :
    Calls Tryz.prog 48 #[.pointer (some ⟨q, 0, none⟩), .slice (some ⟨b, off, none⟩) ws.length c, .int .i64 line] w fun e w' => LineOut q n₀ (doLine st (wl ws) line) w e w' := by
  have hd : doLine st (wl ws) line = if isF then doFold st (wl ws) else doDecomp st (wl ws) line := by
    rw [doLine_name (wl_at' hs0), hk]
    cases isF <;> rfl
  rw [hd]
  by_cases h3 : ws.length < 3
  · have ht : someOf (wl ws) = .error 2 := by unfold someOf; rw [if_pos (by rw [wl_length]; exact h3)]
    refine (single_few q _ _ c line w h3).mono ?_
    rintro e w' ⟨rfl, hb⟩
    cases isF
    · show LineOut _ _ (doDecomp st (wl ws) line) _ _ _
      unfold doDecomp
      rw [ht]
      exact ⟨rfl, by decide, hb⟩
    · show LineOut _ _ (doFold st (wl ws)) _ _ _
      unfold doFold
      rw [ht]
      exact ⟨rfl, by decide, hb⟩
  by_cases h10 : 10 < ws.length
  · have ht : someOf (wl ws) = .error 5 := by unfold someOf; rw [if_neg (by rw [wl_length]; exact h3), if_pos (by rw [wl_length]; exact h10)]
    refine (single_lots q _ _ c line w h10).mono ?_
    rintro e w' ⟨rfl, hb⟩
    cases isF
    · show LineOut _ _ (doDecomp st (wl ws) line) _ _ _
      unfold doDecomp
      rw [ht]
      exact ⟨rfl, by decide, hb⟩
    · show LineOut _ _ (doFold st (wl ws)) _ _ _
      unfold doFold
      rw [ht]
      exact ⟨rfl, by decide, hb⟩
  obtain ⟨v, xs, n, h1, h2⟩ := h
  obtain ⟨ks, hks⟩ := h2.f.1
  refine (single_calls q n₀ v xs n line w h1 hn₀ (by rw [h2.f.2]; exact hsm.1) (by rw [h2.d.2]; exact hsm.2) b off c ws hws hc (by omega) (by omega) s0 hs0 isF (by rw [Lib.toList_data, hk]; cases isF <;> rfl) st.d.folds st.d.decomps ks _ hks h2.f.2 h2.d.1 h2.d.2).mono ?_
  intro e w' ho
  cases isF
  · show LineOut _ _ (doDecomp st (wl ws) line) _ _ _
    rw [single_decomp (by rw [wl_length]; omega) (by rw [wl_length]; omega)]
    cases hs : singleOf false st.d.folds st.d.decomps (wl ws) with
    | error k =>
      rw [hs] at ho
      exact ⟨ho.1, single_err hs, ho.2⟩
    | ok p =>
      rw [hs] at ho
      obtain ⟨e1, tv, ht, hp⟩ := ho
      exact ⟨e1, Put.decomp' h1 h2 ht hp⟩
  · show LineOut _ _ (doFold st (wl ws)) _ _ _
    rw [single_fold (by rw [wl_length]; omega) (by rw [wl_length]; omega)]
    cases hs : singleOf true st.d.folds st.d.decomps (wl ws) with
    | error k =>
      rw [hs] at ho
      exact ⟨ho.1, single_err hs, ho.2⟩
    | ok p =>
      rw [hs] at ho
      obtain ⟨e1, tv, ht, hp⟩ := ho
      exact ⟨e1, Put.fold' h1 h2 ht hp⟩
end Go.Proofs.YtfmcadobpgpajaaGreatDoor.Rf
