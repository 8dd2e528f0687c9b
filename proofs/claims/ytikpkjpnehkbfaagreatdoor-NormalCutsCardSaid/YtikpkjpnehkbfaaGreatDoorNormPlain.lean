/- Rows decomposed and put in order: plain. -/
import Derived.Test.YtikpkjpnehkbfaaGreatDoorBPlain
import Derived.Lib.Hide
namespace Go.Proofs.YtikpkjpnehkbfaaGreatDoor.Nm
set_option linter.unusedVariables false
set_option linter.unusedSimpArgs false
open Go.Proofs.YtikpkjpnehkbfaaGreatDoor.Sp

/-! ### full decompositions -/
def wholeGo (D : PD) : Nat → Int → List Int
  | 0, r => [r]
  | k + 1, r => if decompOf D r = [] then [r] else (decompOf D r).flatMap (wholeGo D k)
def wholeOf (D : PD) (r : Int) : List Int := wholeGo D 100000 r
theorem wholeGo_succ (D : PD) : ∀ (k : Nat) (r : Int) (n : Nat), fullGo D k r = some n → wholeGo D (k + 1) r = wholeGo D k r
  | 0, _, _, e => by cases e
  | k + 1, r, n, e => by
    rw [fullGo] at e
    rw [wholeGo, wholeGo]
    by_cases hd : decompOf D r = []
    · rw [if_pos hd, if_pos hd]
    · rw [if_neg hd] at e ⊢
      rw [if_neg hd]
      rw [sumOf_from] at e
      have hp := sumFrom_parts _ _ _ e
      generalize decompOf D r = l at hp
      clear e hd
      induction l with
      | nil => rfl
      | cons q l ih =>
        obtain ⟨b, hb⟩ := hp q (by simp)
        rw [List.flatMap_cons, List.flatMap_cons, wholeGo_succ D k q b hb, ih (fun x hx => hp x (by simp [hx]))]
theorem wholeGo_le (D : PD) {k k' : Nat} (h : k ≤ k') {r : Int} {n : Nat} (e : fullGo D k r = some n) : wholeGo D k' r = wholeGo D k r := by
  induction h with
  | refl => rfl
  | step h ih => rw [wholeGo_succ D _ r n (fullGo_le D h e), ih]
theorem wholeGo_len (D : PD) : ∀ (k : Nat) (r : Int) (n : Nat), fullGo D k r = some n → n = min (wholeGo D k r).length 9 ∧ wholeGo D k r ≠ []
  | 0, _, _, e => by cases e
  | k + 1, r, n, e => by
    rw [fullGo] at e
    rw [wholeGo]
    by_cases hd : decompOf D r = []
    · rw [if_pos hd] at e ⊢
      injection e with e
      subst e
      exact ⟨by simp, by simp⟩
    · rw [if_neg hd] at e ⊢
      rw [sumOf_from] at e
      have key : ∀ (l : List Int) (a n : Nat), sumFrom (fullGo D k) (some a) l = some n → a ≤ 9 → n = min (a + (l.flatMap (wholeGo D k)).length) 9 ∧ (l ≠ [] → l.flatMap (wholeGo D k) ≠ []) := by
        intro l
        induction l with
        | nil =>
          intro a n e ha
          unfold sumFrom at e
          simp only [List.foldl_nil, Option.some.injEq] at e
          exact ⟨by simp; omega, by simp⟩
        | cons q l ih =>
          intro a n e ha
          rw [sumFrom_cons] at e
          cases hq : fullGo D k q with
          | none => rw [hq] at e; cases e
          | some b =>
            rw [hq] at e
            obtain ⟨h1, h2⟩ := wholeGo_len D k q b hq
            obtain ⟨h3, _⟩ := ih _ n e (by omega)
            rw [List.flatMap_cons, List.length_append]
            exact ⟨by omega, fun _ => by simp [h2]⟩
      obtain ⟨h1, h2⟩ := key _ 0 n e (by omega)
      exact ⟨by omega, h2 hd⟩
/-- What comes out has no decomposition of its own. -/
theorem wholeGo_leaf (D : PD) : ∀ (k : Nat) (r : Int) (n : Nat), fullGo D k r = some n → ∀ x ∈ wholeGo D k r, decompOf D x = []
  | 0, _, _, e => by cases e
  | k + 1, r, n, e => by
    rw [fullGo] at e
    rw [wholeGo]
    by_cases hd : decompOf D r = []
    · rw [if_pos hd]
      intro x hx
      rw [List.mem_singleton] at hx
      rw [hx]; exact hd
    · rw [if_neg hd] at e ⊢
      rw [sumOf_from] at e
      have hp := sumFrom_parts _ _ _ e
      intro x hx
      obtain ⟨q, hq, hx⟩ := List.mem_flatMap.1 hx
      obtain ⟨b, hb⟩ := hp q hq
      exact wholeGo_leaf D k q b hb x hx

/-! ### how deep decompositions go -/
/-- A point stands on a level: within so many steps its decomposition ends, and not within fewer. -/
def OnLevel (D : PD) (k : Nat) (r : Int) : Prop := (∃ n, fullGo D (k + 1) r = some n) ∧ fullGo D k r = none
theorem sumFrom_some {f : Int → Option Nat} : ∀ (l : List Int) (a : Nat), (∀ q ∈ l, ∃ b, f q = some b) → ∃ n, sumFrom f (some a) l = some n
  | [], a, _ => ⟨a, rfl⟩
  | q :: l, a, h => by
    obtain ⟨b, hb⟩ := h q (by simp)
    rw [sumFrom_cons, hb]
    exact sumFrom_some l _ (fun x hx => h x (by simp [hx]))
theorem OnLevel.below {D : PD} {k : Nat} {r : Int} (h : OnLevel D (k + 1) r) : decompOf D r ≠ [] ∧ ∃ q ∈ decompOf D r, OnLevel D k q := by
  obtain ⟨⟨n, hn⟩, h0⟩ := h
  rw [fullGo] at hn h0
  by_cases hd : decompOf D r = []
  · rw [if_pos hd] at h0; cases h0
  · rw [if_neg hd, sumOf_from] at hn h0
    refine ⟨hd, ?_⟩
    have hp := sumFrom_parts _ _ _ hn
    by_cases hq : ∀ q ∈ decompOf D r, ∃ b, fullGo D k q = some b
    · obtain ⟨m, hm⟩ := sumFrom_some (decompOf D r) 0 hq
      rw [hm] at h0; cases h0
    · have hq : ∃ q, q ∈ decompOf D r ∧ ¬ ∃ b, fullGo D k q = some b := by
        apply Classical.byContradiction
        intro hc
        exact hq (fun q hqm => Classical.byContradiction fun h => hc ⟨q, hqm, h⟩)
      obtain ⟨q, hqm, hno⟩ := hq
      refine ⟨q, hqm, hp q hqm, ?_⟩
      cases he : fullGo D k q with
      | none => rfl
      | some b => exact absurd ⟨b, he⟩ hno
/-- A row of points, each on the level of its number. -/
theorem levels {D : PD} : ∀ (k : Nat) (r : Int), OnLevel D k r → ∃ l : List Int, l.length = k ∧ (∀ i x, l[i]? = some x → OnLevel D (i + 1) x)
  | 0, r, _ => ⟨[], rfl, fun i x h => by simp at h⟩
  | k + 1, r, h => by
    obtain ⟨_, q, _, hq⟩ := h.below
    obtain ⟨l, h1, h2⟩ := levels k q hq
    refine ⟨l ++ [r], by simp [h1], fun i x hx => ?_⟩
    by_cases hi : i < l.length
    · rw [List.getElem?_append_left hi] at hx
      exact h2 i x hx
    · rw [List.getElem?_append_right (by omega)] at hx
      have hi0 : i - l.length = 0 := by
        have := (List.getElem?_eq_some_iff.1 hx).1
        simp at this
        omega
      rw [hi0] at hx
      simp only [List.getElem?_cons_zero, Option.some.injEq] at hx
      subst hx
      rw [show i = k by omega]
      exact h
theorem level_one {D : PD} {i j : Nat} {x : Int} (h : OnLevel D i x) (h' : OnLevel D j x) : i = j := by
  obtain ⟨⟨n, hn⟩, h0⟩ := h
  obtain ⟨⟨m, hm⟩, h1⟩ := h'
  by_cases hij : i < j
  · rw [fullGo_le D (show i + 1 ≤ j by omega) hn] at h1; cases h1
  · by_cases hji : j < i
    · rw [fullGo_le D (show j + 1 ≤ i by omega) hm] at h0; cases h0
    · omega
theorem nodup_sub : ∀ {l m : List Int}, l.Nodup → (∀ x ∈ l, x ∈ m) → l.length ≤ m.length
  | [], _, _, _ => Nat.zero_le _
  | x :: l, m, hn, hs => by
    rw [List.nodup_cons] at hn
    have hx : x ∈ m := hs x (by simp)
    have := nodup_sub (l := l) (m := m.erase x) hn.2 (fun y hy => (List.mem_erase_of_ne (fun e => hn.1 (by rw [← e]; exact hy))).2 (hs y (by simp [hy])))
    rw [List.length_erase_of_mem hx] at this
    have hm : 0 < m.length := List.length_pos_of_mem hx
    simp only [List.length_cons]
    omega
theorem lookD_key {l : List (Int × List Int)} {r : Int} {ps : List Int} (h : lookD l r = some ps) : r ∈ l.map (·.1) := List.mem_map.2 ⟨_, lookD_in h, rfl⟩
theorem syl_leaf {D : PD} (hp : ∀ q ∈ D.decomps, isSyl q.1 = false ∧ isJamo q.1 = false) {r q : Int} (hs : isSyl r = true) (hq : q ∈ decompOf D r) : decompOf D q = [] ∧ isJamo q = true := by
  unfold decompOf at hq
  rw [if_pos hs] at hq
  unfold sylOf at hq
  have hb : 44032 ≤ r ∧ r < 55204 := by simp [isSyl] at hs; exact hs
  have hj : isJamo q = true ∧ isSyl q = false := by
    simp only [List.mem_append, List.mem_cons, List.not_mem_nil, or_false] at hq
    rcases hq with (rfl | rfl) | hq
    · simp [isJamo, isSyl]; omega
    · simp [isJamo, isSyl]; omega
    · split at hq
      · cases hq
      · simp only [List.mem_singleton] at hq
        subst hq
        simp [isJamo, isSyl]; omega
  refine ⟨?_, hj.1⟩
  unfold decompOf
  rw [hj.2, if_neg (by decide)]
  cases hl : lookD D.decomps q with
  | none => rfl
  | some ps =>
    have := (hp _ (lookD_in hl)).2
    simp only at this
    rw [hj.1] at this
    cases this
theorem depth {D : PD} (hp : ∀ q ∈ D.decomps, isSyl q.1 = false ∧ isJamo q.1 = false) {r : Int} {n : Nat} (h : Full D r n) : fullGo D (D.decomps.length + 3) r = some n := by
  obtain ⟨k, hk⟩ := h
  by_cases hle : k ≤ D.decomps.length + 3
  · exact fullGo_le D hle hk
  · cases hz : fullGo D (D.decomps.length + 3) r with
    | some m =>
      rw [fullGo_le D (show D.decomps.length + 3 ≤ k by omega) hz] at hk
      exact hk
    | none =>
      exfalso
      -- some level above holds it
      have hl : ∃ j, D.decomps.length + 3 ≤ j ∧ OnLevel D j r := by
        have key : ∀ d, (∃ m, fullGo D (D.decomps.length + 3 + d) r = some m) → ∃ j, D.decomps.length + 3 ≤ j ∧ OnLevel D j r := by
          intro d
          induction d with
          | zero => rintro ⟨m, hm⟩; rw [Nat.add_zero, hz] at hm; cases hm
          | succ d ih =>
            rintro ⟨m, hm⟩
            cases hd : fullGo D (D.decomps.length + 3 + d) r with
            | some b => exact ih ⟨b, hd⟩
            | none => exact ⟨D.decomps.length + 3 + d, by omega, ⟨m, hm⟩, hd⟩
        exact key (k - (D.decomps.length + 3)) ⟨n, by rw [show D.decomps.length + 3 + (k - (D.decomps.length + 3)) = k by omega]; exact hk⟩
      obtain ⟨j, hj, hlv⟩ := hl
      obtain ⟨l, h1, h2⟩ := levels j r hlv
      have hnd : (l.drop 1).Nodup := by
        refine List.pairwise_iff_getElem.2 (fun a b ha hb hab he => ?_)
        have ea := List.getElem?_eq_getElem ha
        have eb := List.getElem?_eq_getElem hb
        rw [List.getElem?_drop] at ea eb
        rw [he] at ea
        have := level_one (h2 _ _ ea) (h2 _ _ eb)
        omega
      have hsub : ∀ x ∈ l.drop 1, x ∈ D.decomps.map (·.1) := by
        intro x hx
        obtain ⟨i, hi⟩ := List.mem_iff_getElem?.1 hx
        rw [List.getElem?_drop] at hi
        have hv := h2 _ x hi
        obtain ⟨hne, q, hq, hv2⟩ := hv.below
        cases hs : isSyl x with
        | true =>
          have := (syl_leaf hp hs hq).1
          obtain ⟨_, hno⟩ := hv2
          rw [show 1 + i = i + 1 by omega, fullGo, if_pos this] at hno
          cases hno
        | false =>
          unfold decompOf at hne
          rw [hs, if_neg (by decide)] at hne
          cases hl : lookD D.decomps x with
          | none => rw [hl] at hne; exact absurd rfl hne
          | some ps => exact lookD_key hl
      have := nodup_sub hnd hsub
      rw [List.length_drop, List.length_map] at this
      omega

/-! ### what holds of all that is read -/
def ClOk (st : St) : Prop := ∀ x ∈ st.d.classes, 0 ≤ x.n ∧ x.n ≤ 254
theorem doLine_cl {st st' : St} {w : List Bytes} {k : Int} (h : ClOk st) (hd : doLine st w k = .ok st') : ClOk st' := by
  unfold doLine at hd
  split at hd
  · injection hd with hd
    subst hd
    exact h
  · split at hd
    · unfold doClass at hd
      split at hd
      · cases hd
      · split at hd
        · cases hd
        · rename_i lo hi _ _ n hn
          injection hd with hd
          subst hd
          have hn' : 0 ≤ n ∧ n ≤ 254 := by
            unfold classNo at hn
            split at hn
            · split at hn
              · cases hn
              · injection hn with hn
                subst hn
                omega
            · cases hn
          intro x hx
          rcases List.mem_append.1 hx with hx | hx
          · exact h x hx
          · rw [List.mem_singleton] at hx
            subst hx
            exact hn'
    · split at hd
      · unfold doKind at hd
        split at hd
        · cases hd
        · split at hd
          · cases hd
          · injection hd with hd
            subst hd
            exact h
      · split at hd
        · unfold doFold at hd
          split at hd
          · cases hd
          · cases hd
          · split at hd
            · cases hd
            · injection hd with hd
              subst hd
              exact h
        · split at hd
          · unfold doDecomp at hd
            split at hd
            · cases hd
            · cases hd
            · split at hd
              · cases hd
              · split at hd
                · cases hd
                · injection hd with hd
                  subst hd
                  exact h
          · cases hd
theorem doLines_cl : ∀ {ls : List Bytes} {st st' : St} {k : Int}, ClOk st → doLines st ls k = .ok st' → ClOk st'
  | [], st, st', k, h, hd => by
    simp only [doLines, Except.ok.injEq] at hd
    subst hd
    exact h
  | l :: ls, st, st', k, h, hd => by
    simp only [doLines] at hd
    cases hl : doLine st (wordsOf l) k with
    | error e => rw [hl] at hd; cases hd
    | ok s => rw [hl] at hd; exact doLines_cl (doLine_cl h hl) hd
theorem doLine_more {st st' : St} {w : List Bytes} {k : Int} (hd : doLine st w k = .ok st') : st'.d.decomps.length ≤ st.d.decomps.length + 1 := by
  unfold doLine at hd
  split at hd
  · injection hd with hd
    subst hd
    omega
  · split at hd
    · unfold doClass at hd
      split at hd
      · cases hd
      · split at hd
        · cases hd
        · injection hd with hd
          subst hd
          simp
    · split at hd
      · unfold doKind at hd
        split at hd
        · cases hd
        · split at hd
          · cases hd
          · injection hd with hd
            subst hd
            simp
      · split at hd
        · unfold doFold at hd
          split at hd
          · cases hd
          · cases hd
          · split at hd
            · cases hd
            · injection hd with hd
              subst hd
              simp
        · split at hd
          · unfold doDecomp at hd
            split at hd
            · cases hd
            · cases hd
            · split at hd
              · cases hd
              · split at hd
                · cases hd
                · injection hd with hd
                  subst hd
                  simp
          · cases hd
theorem doLines_more : ∀ {ls : List Bytes} {st st' : St} {k : Int}, doLines st ls k = .ok st' → st'.d.decomps.length ≤ st.d.decomps.length + ls.length
  | [], st, st', k, hd => by
    simp only [doLines, Except.ok.injEq] at hd
    subst hd
    simp
  | l :: ls, st, st', k, hd => by
    simp only [doLines] at hd
    cases hl : doLine st (wordsOf l) k with
    | error e => rw [hl] at hd; cases hd
    | ok s =>
      rw [hl] at hd
      have h1 := doLines_more hd
      have h2 := doLine_more hl
      simp only [List.length_cons]
      omega
theorem pieces_len (c : UInt8) : ∀ s : Bytes, (pieces c s).length = (s.filter (· == c)).length + 1
  | [] => rfl
  | b :: l => by
    have ih := pieces_len c l
    unfold pieces
    by_cases h : b = c
    · rw [if_pos h, List.filter_cons, if_pos (by simp [h])]
      simp [ih]
    · rw [if_neg h, List.filter_cons, if_neg (by simp [h])]
      cases hp : pieces c l with
      | nil => rw [hp] at ih; simp at ih
      | cons p ps => rw [hp] at ih; simpa using ih
/-- All that the laws of this chapter ask of properties. -/
structure Good (D : PD) : Prop where
  cls : ∀ r, 0 ≤ classOf D r ∧ classOf D r ≤ 254
  full : ∀ r, ∃ n, n ≤ 8 ∧ fullGo D 100000 r = some n
  ok : ∃ st, st.d = D ∧ StOk st
theorem said_in {l : List Row} {r o : Int} {P : Int → Prop} (h : ∀ x ∈ l, P x.n) (ho : P o) : P (said l r o) := by
  unfold said
  cases hf : l.reverse.find? (fun x => x.has r) with
  | none => exact ho
  | some x => exact h x (List.mem_reverse.1 (List.mem_of_find?_eq_some hf))
theorem good_of {s : Bytes} {D : PD} (h : parse s = .ok D) : Good D := by
  unfold parse at h
  split at h
  · cases h
  · rename_i hsz
    cases hd : doLines {} (pieces 10 s) 1 with
    | error e => rw [hd] at h; cases h
    | ok st =>
      rw [hd] at h
      simp only at h
      cases hb : badLeast st with
      | some x => rw [hb] at h; cases h
      | none =>
        rw [hb] at h
        injection h with h
        subst h
        have hok := doLines_ok StOk.empty hd
        have hcl : ClOk st := doLines_cl (st := {}) (fun x hx => by cases hx) hd
        have hmore := doLines_more hd
        have hlen : (pieces 10 s).length ≤ 65537 := by
          rw [pieces_len]
          unfold lineCount at hsz
          omega
        have hall := ((bad_fold st.d st.lines none).1 hb).2
        refine ⟨fun r => ?_, fun r => ?_, st, rfl, hok⟩
        · unfold classOf
          split
          · omega
          · exact said_in (P := fun z => 0 ≤ z ∧ z ≤ 254) hcl (by omega)
        · have hf : ∃ n, n ≤ 8 ∧ Full st.d r n := by
            by_cases hde : decompOf st.d r = []
            · exact ⟨1, by omega, Full.leaf hde⟩
            · cases hs : isSyl r with
              | true =>
                have hleaf : ∀ q ∈ decompOf st.d r, Full st.d q 1 := fun q hq => Full.leaf (syl_leaf hok.plain hs hq).1
                have h3 : (decompOf st.d r).length ≤ 3 := by unfold decompOf; rw [if_pos hs]; unfold sylOf; dsimp only; split <;> simp
                have key : ∀ (l : List Int) (a : Nat), (∀ q ∈ l, Full st.d q 1) → a + l.length ≤ 8 → Sums st.d a l (a + l.length) := by
                  intro l
                  induction l with
                  | nil => intro a _ _; exact .nil a
                  | cons q l ih =>
                    intro a hq ha
                    simp only [List.length_cons] at ha ⊢
                    refine .cons a 1 _ q l (hq q (by simp)) ?_
                    have := ih (a + 1) (fun x hx => hq x (by simp [hx])) (by omega)
                    rw [show min (a + 1) 9 = a + 1 by omega, show a + (l.length + 1) = a + 1 + l.length by omega]
                    exact this
                have hS := key (decompOf st.d r) 0 hleaf (by omega)
                exact ⟨_, by omega, Sums.full hde hS⟩
              | false =>
                have hin : r ∈ st.lines.map (·.1) := by
                  rw [hok.keys]
                  unfold decompOf at hde
                  rw [hs, if_neg (by decide)] at hde
                  cases hl : lookD st.d.decomps r with
                  | none => rw [hl] at hde; exact absurd rfl hde
                  | some ps => exact lookD_key hl
                obtain ⟨p, hp, rfl⟩ := List.mem_map.1 hin
                have hbad := hall p hp
                unfold badOf at hbad
                split at hbad
                · rename_i hx
                  obtain ⟨n, hn, h8⟩ := hx
                  exact ⟨n, h8, hn⟩
                · split at hbad <;> cases hbad
          obtain ⟨n, hn, hfu⟩ := hf
          exact ⟨n, hn, fullGo_le st.d (by have : ({} : St).d.decomps.length = 0 := rfl; omega) (depth hok.plain hfu)⟩
theorem Good.leaf {D : PD} (h : Good D) {r x : Int} (hx : x ∈ wholeOf D r) : decompOf D x = [] := by
  obtain ⟨n, _, hn⟩ := h.full r
  exact wholeGo_leaf D _ r n hn x hx
theorem wholeGo_pos (D : PD) {k : Nat} (hk : 0 < k) (r : Int) : wholeGo D k r = if decompOf D r = [] then [r] else (decompOf D r).flatMap (wholeGo D (k - 1)) := by
  cases k with
  | zero => omega
  | succ k => rw [wholeGo]; rfl
theorem fullGo_pos' (D : PD) {k : Nat} (hk : 0 < k) (r : Int) : fullGo D k r = if decompOf D r = [] then some 1 else sumOf (fullGo D (k - 1)) (decompOf D r) := by
  cases k with
  | zero => omega
  | succ k => rw [fullGo]; rfl
theorem whole_leaf {D : PD} {r : Int} (h : decompOf D r = []) : wholeOf D r = [r] := by
  unfold wholeOf
  rw [wholeGo_pos D (by omega), if_pos h]
theorem Good.len {D : PD} (h : Good D) (r : Int) : 1 ≤ (wholeOf D r).length ∧ (wholeOf D r).length ≤ 8 := by
  obtain ⟨n, h8, hn⟩ := h.full r
  obtain ⟨h1, h2⟩ := wholeGo_len D _ r n hn
  have := List.length_pos_iff.2 h2
  unfold wholeOf
  omega
theorem whole_step {D : PD} : ∀ {k : Nat} {r : Int} {n : Nat}, fullGo D k r = some n → decompOf D r ≠ [] → wholeGo D k r = (decompOf D r).flatMap (wholeGo D k)
  | 0, _, _, e, _ => by cases e
  | k + 1, r, n, hn, hd => by
    rw [fullGo, if_neg hd, sumOf_from] at hn
    have hp := sumFrom_parts _ _ _ hn
    conv => lhs; rw [wholeGo, if_neg hd]
    generalize decompOf D r = l at hp
    clear hn hd
    induction l with
    | nil => rfl
    | cons q l ih =>
      obtain ⟨b, hb⟩ := hp q (by simp)
      rw [List.flatMap_cons, List.flatMap_cons, ih (fun x hx => hp x (by simp [hx])), wholeGo_succ D k q b hb]
/-- A full decomposition is the full decompositions of the points of its own. -/
theorem Good.step {D : PD} (h : Good D) {r : Int} (hd : decompOf D r ≠ []) : wholeOf D r = (decompOf D r).flatMap (wholeOf D) := by
  obtain ⟨n, _, hn⟩ := h.full r
  exact whole_step hn hd
end Go.Proofs.YtikpkjpnehkbfaaGreatDoor.Nm
