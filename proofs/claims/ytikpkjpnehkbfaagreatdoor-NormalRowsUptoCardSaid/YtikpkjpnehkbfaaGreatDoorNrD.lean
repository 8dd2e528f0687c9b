/- Rows decomposed and put in order: plain; The order of marks, and what is composed: plain; The stable order, in plain Lean: rows whose parts are put elsewhere; what is merged is in order; The loops that put marks in order, and that compose: what holds in their midst: plain; What the laws of chapter 7 ask: plain; Where the units of a text begin, and what is told backwards from there: plain Lean; Texts as points: plain; A text's runes as Go's conversion gives them, and as points: plain; What is ill-formed stays so: plain; The file of the chapter's example: plain; The reference's decoder (glossaryref02), plain: it tells what the library's does. -/
import Derived.Test.YtikpkjpnehkbfaaGreatDoorNrA
import Derived.Lib.Hide
import Derived.RowKit
import Derived.Lib.TrimUEq
import Derived.Lib.MapLaws
import Derived.Laws.IdiomStrings
import Derived.Laws.Runes
import Derived.Lib.Small
import Derived.Lib.AppendStr
set_option linter.unusedVariables false
set_option linter.unusedSimpArgs false
namespace Go.Proofs.YtikpkjpnehkbfaaGreatDoor.Nm
open Go.Proofs.YtikpkjpnehkbfaaGreatDoor.Sp
def wholeGo (D : PD) : Nat → Int → List Int
  | 0, r => [r]
  | k + 1, r => if decompOf D r = [] then [r] else (decompOf D r).flatMap (wholeGo D k)
def wholeOf (D : PD) (r : Int) : List Int := wholeGo D 100000 r
theorem wholeGo_succ (D : PD) : ∀ (k : Nat) (r : Int) (n : Nat), fullGo D k r = some n → wholeGo D (k + 1) r = wholeGo D k r
  | 0, _, _, e => by cases e
  | k + 1, r, n, e => by
    rw [fullGo] at e
    rw [wholeGo, wholeGo]
    by_cases hd : decompOf D r = []
    · rw [if_pos hd, if_pos hd]
    · rw [if_neg hd] at e ⊢
      rw [if_neg hd]
      rw [sumOf_from] at e
      have hp := sumFrom_parts _ _ _ e
      generalize decompOf D r = l at hp
      clear e hd
      induction l with
      | nil => rfl
      | cons q l ih =>
        obtain ⟨b, hb⟩ := hp q (by simp)
        rw [List.flatMap_cons, List.flatMap_cons, wholeGo_succ D k q b hb, ih (fun x hx => hp x (by simp [hx]))]
theorem wholeGo_len (D : PD) : ∀ (k : Nat) (r : Int) (n : Nat), fullGo D k r = some n → n = min (wholeGo D k r).length 9 ∧ wholeGo D k r ≠ []
  | 0, _, _, e => by cases e
  | k + 1, r, n, e => by
    rw [fullGo] at e
    rw [wholeGo]
    by_cases hd : decompOf D r = []
    · rw [if_pos hd] at e ⊢
      injection e with e
      subst e
      exact ⟨by simp, by simp⟩
    · rw [if_neg hd] at e ⊢
      rw [sumOf_from] at e
      have key : ∀ (l : List Int) (a n : Nat), sumFrom (fullGo D k) (some a) l = some n → a ≤ 9 → n = min (a + (l.flatMap (wholeGo D k)).length) 9 ∧ (l ≠ [] → l.flatMap (wholeGo D k) ≠ []) := by
        intro l
        induction l with
        | nil =>
          intro a n e ha
          unfold sumFrom at e
          simp only [List.foldl_nil, Option.some.injEq] at e
          exact ⟨by simp; omega, by simp⟩
        | cons q l ih =>
          intro a n e ha
          rw [sumFrom_cons] at e
          cases hq : fullGo D k q with
          | none => rw [hq] at e; cases e
          | some b =>
            rw [hq] at e
            obtain ⟨h1, h2⟩ := wholeGo_len D k q b hq
            obtain ⟨h3, _⟩ := ih _ n e (by omega)
            rw [List.flatMap_cons, List.length_append]
            exact ⟨by omega, fun _ => by simp [h2]⟩
      obtain ⟨h1, h2⟩ := key _ 0 n e (by omega)
      exact ⟨by omega, h2 hd⟩
theorem wholeGo_leaf (D : PD) : ∀ (k : Nat) (r : Int) (n : Nat), fullGo D k r = some n → ∀ x ∈ wholeGo D k r, decompOf D x = []
  | 0, _, _, e => by cases e
  | k + 1, r, n, e => by
    rw [fullGo] at e
    rw [wholeGo]
    by_cases hd : decompOf D r = []
    · rw [if_pos hd]
      intro x hx
      rw [List.mem_singleton] at hx
      rw [hx]; exact hd
    · rw [if_neg hd] at e ⊢
      rw [sumOf_from] at e
      have hp := sumFrom_parts _ _ _ e
      intro x hx
      obtain ⟨q, hq, hx⟩ := List.mem_flatMap.1 hx
      obtain ⟨b, hb⟩ := hp q hq
      exact wholeGo_leaf D k q b hb x hx
def OnLevel (D : PD) (k : Nat) (r : Int) : Prop := (∃ n, fullGo D (k + 1) r = some n) ∧ fullGo D k r = none
theorem sumFrom_some {f : Int → Option Nat} : ∀ (l : List Int) (a : Nat), (∀ q ∈ l, ∃ b, f q = some b) → ∃ n, sumFrom f (some a) l = some n
  | [], a, _ => ⟨a, rfl⟩
  | q :: l, a, h => by
    obtain ⟨b, hb⟩ := h q (by simp)
    rw [sumFrom_cons, hb]
    exact sumFrom_some l _ (fun x hx => h x (by simp [hx]))
theorem OnLevel.below {D : PD} {k : Nat} {r : Int} (h : OnLevel D (k + 1) r) : decompOf D r ≠ [] ∧ ∃ q ∈ decompOf D r, OnLevel D k q := by
  obtain ⟨⟨n, hn⟩, h0⟩ := h
  rw [fullGo] at hn h0
  by_cases hd : decompOf D r = []
  · rw [if_pos hd] at h0; cases h0
  · rw [if_neg hd, sumOf_from] at hn h0
    refine ⟨hd, ?_⟩
    have hp := sumFrom_parts _ _ _ hn
    by_cases hq : ∀ q ∈ decompOf D r, ∃ b, fullGo D k q = some b
    · obtain ⟨m, hm⟩ := sumFrom_some (decompOf D r) 0 hq
      rw [hm] at h0; cases h0
    · have hq : ∃ q, q ∈ decompOf D r ∧ ¬ ∃ b, fullGo D k q = some b := by
        apply Classical.byContradiction
        intro hc
        exact hq (fun q hqm => Classical.byContradiction fun h => hc ⟨q, hqm, h⟩)
      obtain ⟨q, hqm, hno⟩ := hq
      refine ⟨q, hqm, hp q hqm, ?_⟩
      cases he : fullGo D k q with
      | none => rfl
      | some b => exact absurd ⟨b, he⟩ hno
theorem levels {D : PD} : ∀ (k : Nat) (r : Int), OnLevel D k r → ∃ l : List Int, l.length = k ∧ (∀ i x, l[i]? = some x → OnLevel D (i + 1) x)
  | 0, r, _ => ⟨[], rfl, fun i x h => by simp at h⟩
  | k + 1, r, h => by
    obtain ⟨_, q, _, hq⟩ := h.below
    obtain ⟨l, h1, h2⟩ := levels k q hq
    refine ⟨l ++ [r], by simp [h1], fun i x hx => ?_⟩
    by_cases hi : i < l.length
    · rw [List.getElem?_append_left hi] at hx
      exact h2 i x hx
    · rw [List.getElem?_append_right (by omega)] at hx
      have hi0 : i - l.length = 0 := by
        have := (List.getElem?_eq_some_iff.1 hx).1
        simp at this
        omega
      rw [hi0] at hx
      simp only [List.getElem?_cons_zero, Option.some.injEq] at hx
      subst hx
      rw [show i = k by omega]
      exact h
theorem level_one {D : PD} {i j : Nat} {x : Int} (h : OnLevel D i x) (h' : OnLevel D j x) : i = j := by
  obtain ⟨⟨n, hn⟩, h0⟩ := h
  obtain ⟨⟨m, hm⟩, h1⟩ := h'
  by_cases hij : i < j
  · rw [fullGo_le D (show i + 1 ≤ j by omega) hn] at h1; cases h1
  · by_cases hji : j < i
    · rw [fullGo_le D (show j + 1 ≤ i by omega) hm] at h0; cases h0
    · omega
theorem nodup_sub : ∀ {l m : List Int}, l.Nodup → (∀ x ∈ l, x ∈ m) → l.length ≤ m.length
  | [], _, _, _ => Nat.zero_le _
  | x :: l, m, hn, hs => by
    rw [List.nodup_cons] at hn
    have hx : x ∈ m := hs x (by simp)
    have := nodup_sub (l := l) (m := m.erase x) hn.2 (fun y hy => (List.mem_erase_of_ne (fun e => hn.1 (by rw [← e]; exact hy))).2 (hs y (by simp [hy])))
    rw [List.length_erase_of_mem hx] at this
    have hm : 0 < m.length := List.length_pos_of_mem hx
    simp only [List.length_cons]
    omega
theorem lookD_key {l : List (Int × List Int)} {r : Int} {ps : List Int} (h : lookD l r = some ps) : r ∈ l.map (·.1) := List.mem_map.2 ⟨_, lookD_in h, rfl⟩
theorem syl_leaf {D : PD} (hp : ∀ q ∈ D.decomps, isSyl q.1 = false ∧ isJamo q.1 = false) {r q : Int} (hs : isSyl r = true) (hq : q ∈ decompOf D r) : decompOf D q = [] ∧ isJamo q = true := by
  unfold decompOf at hq
  rw [if_pos hs] at hq
  unfold sylOf at hq
  have hb : 44032 ≤ r ∧ r < 55204 := by simp [isSyl] at hs; exact hs
  have hj : isJamo q = true ∧ isSyl q = false := by
    simp only [List.mem_append, List.mem_cons, List.not_mem_nil, or_false] at hq
    rcases hq with (rfl | rfl) | hq
    · simp [isJamo, isSyl]; omega
    · simp [isJamo, isSyl]; omega
    · split at hq
      · cases hq
      · simp only [List.mem_singleton] at hq
        subst hq
        simp [isJamo, isSyl]; omega
  refine ⟨?_, hj.1⟩
  unfold decompOf
  rw [hj.2, if_neg (by decide)]
  cases hl : lookD D.decomps q with
  | none => rfl
  | some ps =>
    have := (hp _ (lookD_in hl)).2
    simp only at this
    rw [hj.1] at this
    cases this
theorem depth {D : PD} (hp : ∀ q ∈ D.decomps, isSyl q.1 = false ∧ isJamo q.1 = false) {r : Int} {n : Nat} (h : Full D r n) : fullGo D (D.decomps.length + 3) r = some n := by
  obtain ⟨k, hk⟩ := h
  by_cases hle : k ≤ D.decomps.length + 3
  · exact fullGo_le D hle hk
  · cases hz : fullGo D (D.decomps.length + 3) r with
    | some m =>
      rw [fullGo_le D (show D.decomps.length + 3 ≤ k by omega) hz] at hk
      exact hk
    | none =>
      exfalso
      -- some level above holds it
      have hl : ∃ j, D.decomps.length + 3 ≤ j ∧ OnLevel D j r := by
        have key : ∀ d, (∃ m, fullGo D (D.decomps.length + 3 + d) r = some m) → ∃ j, D.decomps.length + 3 ≤ j ∧ OnLevel D j r := by
          intro d
          induction d with
          | zero => rintro ⟨m, hm⟩; rw [Nat.add_zero, hz] at hm; cases hm
          | succ d ih =>
            rintro ⟨m, hm⟩
            cases hd : fullGo D (D.decomps.length + 3 + d) r with
            | some b => exact ih ⟨b, hd⟩
            | none => exact ⟨D.decomps.length + 3 + d, by omega, ⟨m, hm⟩, hd⟩
        exact key (k - (D.decomps.length + 3)) ⟨n, by rw [show D.decomps.length + 3 + (k - (D.decomps.length + 3)) = k by omega]; exact hk⟩
      obtain ⟨j, hj, hlv⟩ := hl
      obtain ⟨l, h1, h2⟩ := levels j r hlv
      have hnd : (l.drop 1).Nodup := by
        refine List.pairwise_iff_getElem.2 (fun a b ha hb hab he => ?_)
        have ea := List.getElem?_eq_getElem ha
        have eb := List.getElem?_eq_getElem hb
        rw [List.getElem?_drop] at ea eb
        rw [he] at ea
        have := level_one (h2 _ _ ea) (h2 _ _ eb)
        omega
      have hsub : ∀ x ∈ l.drop 1, x ∈ D.decomps.map (·.1) := by
        intro x hx
        obtain ⟨i, hi⟩ := List.mem_iff_getElem?.1 hx
        rw [List.getElem?_drop] at hi
        have hv := h2 _ x hi
        obtain ⟨hne, q, hq, hv2⟩ := hv.below
        cases hs : isSyl x with
        | true =>
          have := (syl_leaf hp hs hq).1
          obtain ⟨_, hno⟩ := hv2
          rw [show 1 + i = i + 1 by omega, fullGo, if_pos this] at hno
          cases hno
        | false =>
          unfold decompOf at hne
          rw [hs, if_neg (by decide)] at hne
          cases hl : lookD D.decomps x with
          | none => rw [hl] at hne; exact absurd rfl hne
          | some ps => exact lookD_key hl
      have := nodup_sub hnd hsub
      rw [List.length_drop, List.length_map] at this
      omega
def ClOk (st : St) : Prop := ∀ x ∈ st.d.classes, 0 ≤ x.n ∧ x.n ≤ 254
theorem doLine_cl {st st' : St} {w : List Bytes} {k : Int} (h : ClOk st) (hd : doLine st w k = .ok st') : ClOk st' := by
  unfold doLine at hd
  split at hd
  · injection hd with hd
    subst hd
    exact h
  · split at hd
    · unfold doClass at hd
      split at hd
      · cases hd
      · split at hd
        · cases hd
        · rename_i lo hi _ _ n hn
          injection hd with hd
          subst hd
          have hn' : 0 ≤ n ∧ n ≤ 254 := by
            unfold classNo at hn
            split at hn
            · split at hn
              · cases hn
              · injection hn with hn
                subst hn
                omega
            · cases hn
          intro x hx
          rcases List.mem_append.1 hx with hx | hx
          · exact h x hx
          · rw [List.mem_singleton] at hx
            subst hx
            exact hn'
    · split at hd
      · unfold doKind at hd
        split at hd
        · cases hd
        · split at hd
          · cases hd
          · injection hd with hd
            subst hd
            exact h
      · split at hd
        · unfold doFold at hd
          split at hd
          · cases hd
          · cases hd
          · split at hd
            · cases hd
            · injection hd with hd
              subst hd
              exact h
        · split at hd
          · unfold doDecomp at hd
            split at hd
            · cases hd
            · cases hd
            · split at hd
              · cases hd
              · split at hd
                · cases hd
                · injection hd with hd
                  subst hd
                  exact h
          · cases hd
theorem doLines_cl : ∀ {ls : List Bytes} {st st' : St} {k : Int}, ClOk st → doLines st ls k = .ok st' → ClOk st'
  | [], st, st', k, h, hd => by
    simp only [doLines, Except.ok.injEq] at hd
    subst hd
    exact h
  | l :: ls, st, st', k, h, hd => by
    simp only [doLines] at hd
    cases hl : doLine st (wordsOf l) k with
    | error e => rw [hl] at hd; cases hd
    | ok s => rw [hl] at hd; exact doLines_cl (doLine_cl h hl) hd
theorem doLine_more {st st' : St} {w : List Bytes} {k : Int} (hd : doLine st w k = .ok st') : st'.d.decomps.length ≤ st.d.decomps.length + 1 := by
  unfold doLine at hd
  split at hd
  · injection hd with hd
    subst hd
    omega
  · split at hd
    · unfold doClass at hd
      split at hd
      · cases hd
      · split at hd
        · cases hd
        · injection hd with hd
          subst hd
          simp
    · split at hd
      · unfold doKind at hd
        split at hd
        · cases hd
        · split at hd
          · cases hd
          · injection hd with hd
            subst hd
            simp
      · split at hd
        · unfold doFold at hd
          split at hd
          · cases hd
          · cases hd
          · split at hd
            · cases hd
            · injection hd with hd
              subst hd
              simp
        · split at hd
          · unfold doDecomp at hd
            split at hd
            · cases hd
            · cases hd
            · split at hd
              · cases hd
              · split at hd
                · cases hd
                · injection hd with hd
                  subst hd
                  simp
          · cases hd
theorem doLines_more : ∀ {ls : List Bytes} {st st' : St} {k : Int}, doLines st ls k = .ok st' → st'.d.decomps.length ≤ st.d.decomps.length + ls.length
  | [], st, st', k, hd => by
    simp only [doLines, Except.ok.injEq] at hd
    subst hd
    simp
  | l :: ls, st, st', k, hd => by
    simp only [doLines] at hd
    cases hl : doLine st (wordsOf l) k with
    | error e => rw [hl] at hd; cases hd
    | ok s =>
      rw [hl] at hd
      have h1 := doLines_more hd
      have h2 := doLine_more hl
      simp only [List.length_cons]
      omega
theorem pieces_len (c : UInt8) : ∀ s : Bytes, (pieces c s).length = (s.filter (· == c)).length + 1
  | [] => rfl
  | b :: l => by
    have ih := pieces_len c l
    unfold pieces
    by_cases h : b = c
    · rw [if_pos h, List.filter_cons, if_pos (by simp [h])]
      simp [ih]
    · rw [if_neg h, List.filter_cons, if_neg (by simp [h])]
      cases hp : pieces c l with
      | nil => rw [hp] at ih; simp at ih
      | cons p ps => rw [hp] at ih; simpa using ih
structure Good (D : PD) : Prop where
  cls : ∀ r, 0 ≤ classOf D r ∧ classOf D r ≤ 254
  full : ∀ r, ∃ n, n ≤ 8 ∧ fullGo D 100000 r = some n
  ok : ∃ st, st.d = D ∧ StOk st
theorem said_in {l : List Row} {r o : Int} {P : Int → Prop} (h : ∀ x ∈ l, P x.n) (ho : P o) : P (said l r o) := by
  unfold said
  cases hf : l.reverse.find? (fun x => x.has r) with
  | none => exact ho
  | some x => exact h x (List.mem_reverse.1 (List.mem_of_find?_eq_some hf))
theorem good_of {s : Bytes} {D : PD} (h : parse s = .ok D) : Good D := by
  unfold parse at h
  split at h
  · cases h
  · rename_i hsz
    cases hd : doLines {} (pieces 10 s) 1 with
    | error e => rw [hd] at h; cases h
    | ok st =>
      rw [hd] at h
      simp only at h
      cases hb : badLeast st with
      | some x => rw [hb] at h; cases h
      | none =>
        rw [hb] at h
        injection h with h
        subst h
        have hok := doLines_ok StOk.empty hd
        have hcl : ClOk st := doLines_cl (st := {}) (fun x hx => by cases hx) hd
        have hmore := doLines_more hd
        have hlen : (pieces 10 s).length ≤ 65537 := by
          rw [pieces_len]
          unfold lineCount at hsz
          omega
        have hall := ((bad_fold st.d st.lines none).1 hb).2
        refine ⟨fun r => ?_, fun r => ?_, st, rfl, hok⟩
        · unfold classOf
          split
          · omega
          · exact said_in (P := fun z => 0 ≤ z ∧ z ≤ 254) hcl (by omega)
        · have hf : ∃ n, n ≤ 8 ∧ Full st.d r n := by
            by_cases hde : decompOf st.d r = []
            · exact ⟨1, by omega, Full.leaf hde⟩
            · cases hs : isSyl r with
              | true =>
                have hleaf : ∀ q ∈ decompOf st.d r, Full st.d q 1 := fun q hq => Full.leaf (syl_leaf hok.plain hs hq).1
                have h3 : (decompOf st.d r).length ≤ 3 := by unfold decompOf; rw [if_pos hs]; unfold sylOf; dsimp only; split <;> simp
                have key : ∀ (l : List Int) (a : Nat), (∀ q ∈ l, Full st.d q 1) → a + l.length ≤ 8 → Sums st.d a l (a + l.length) := by
                  intro l
                  induction l with
                  | nil => intro a _ _; exact .nil a
                  | cons q l ih =>
                    intro a hq ha
                    simp only [List.length_cons] at ha ⊢
                    refine .cons a 1 _ q l (hq q (by simp)) ?_
                    have := ih (a + 1) (fun x hx => hq x (by simp [hx])) (by omega)
                    rw [show min (a + 1) 9 = a + 1 by omega, show a + (l.length + 1) = a + 1 + l.length by omega]
                    exact this
                have hS := key (decompOf st.d r) 0 hleaf (by omega)
                exact ⟨_, by omega, Sums.full hde hS⟩
              | false =>
                have hin : r ∈ st.lines.map (·.1) := by
                  rw [hok.keys]
                  unfold decompOf at hde
                  rw [hs, if_neg (by decide)] at hde
                  cases hl : lookD st.d.decomps r with
                  | none => rw [hl] at hde; exact absurd rfl hde
                  | some ps => exact lookD_key hl
                obtain ⟨p, hp, rfl⟩ := List.mem_map.1 hin
                have hbad := hall p hp
                unfold badOf at hbad
                split at hbad
                · rename_i hx
                  obtain ⟨n, hn, h8⟩ := hx
                  exact ⟨n, h8, hn⟩
                · split at hbad <;> cases hbad
          obtain ⟨n, hn, hfu⟩ := hf
          exact ⟨n, hn, fullGo_le st.d (by have : ({} : St).d.decomps.length = 0 := rfl; omega) (depth hok.plain hfu)⟩
theorem Good.leaf {D : PD} (h : Good D) {r x : Int} (hx : x ∈ wholeOf D r) : decompOf D x = [] := by
  obtain ⟨n, _, hn⟩ := h.full r
  exact wholeGo_leaf D _ r n hn x hx
theorem wholeGo_pos (D : PD) {k : Nat} (hk : 0 < k) (r : Int) : wholeGo D k r = if decompOf D r = [] then [r] else (decompOf D r).flatMap (wholeGo D (k - 1)) := by
  cases k with
  | zero => omega
  | succ k => rw [wholeGo]; rfl
theorem whole_leaf {D : PD} {r : Int} (h : decompOf D r = []) : wholeOf D r = [r] := by
  unfold wholeOf
  rw [wholeGo_pos D (by omega), if_pos h]
theorem Good.len {D : PD} (h : Good D) (r : Int) : 1 ≤ (wholeOf D r).length ∧ (wholeOf D r).length ≤ 8 := by
  obtain ⟨n, h8, hn⟩ := h.full r
  obtain ⟨h1, h2⟩ := wholeGo_len D _ r n hn
  have := List.length_pos_iff.2 h2
  unfold wholeOf
  omega
theorem whole_step {D : PD} : ∀ {k : Nat} {r : Int} {n : Nat}, fullGo D k r = some n → decompOf D r ≠ [] → wholeGo D k r = (decompOf D r).flatMap (wholeGo D k)
  | 0, _, _, e, _ => by cases e
  | k + 1, r, n, hn, hd => by
    rw [fullGo, if_neg hd, sumOf_from] at hn
    have hp := sumFrom_parts _ _ _ hn
    conv => lhs; rw [wholeGo, if_neg hd]
    generalize decompOf D r = l at hp
    clear hn hd
    induction l with
    | nil => rfl
    | cons q l ih =>
      obtain ⟨b, hb⟩ := hp q (by simp)
      rw [List.flatMap_cons, List.flatMap_cons, ih (fun x hx => hp x (by simp [hx])), wholeGo_succ D k q b hb]
theorem Good.step {D : PD} (h : Good D) {r : Int} (hd : decompOf D r ≠ []) : wholeOf D r = (decompOf D r).flatMap (wholeOf D) := by
  obtain ⟨n, _, hn⟩ := h.full r
  exact whole_step hn hd
end Go.Proofs.YtikpkjpnehkbfaaGreatDoor.Nm
namespace Go.Proofs.YtikpkjpnehkbfaaGreatDoor.Nm
open Go.Proofs.YtikpkjpnehkbfaaGreatDoor.Sp
section
variable {α : Type}
def Ord (c : α → Int) (l : List α) : Prop := ∀ i x y, l[i]? = some x → l[i + 1]? = some y → 0 < c y → c x ≤ c y
def P0 (c : α → Int) (k : Int) (x : α) : Bool := c x == 0 || c x == k
theorem P0_iff {c : α → Int} {k : Int} {x : α} : P0 c k x = true ↔ c x = 0 ∨ c x = k := by unfold P0; simp
theorem Ord.nil (c : α → Int) : Ord c [] := fun i x y h => by simp at h
theorem Ord.one (c : α → Int) (x : α) : Ord c [x] := fun i x y _ h => by simp at h
theorem Ord.tail {c : α → Int} {x : α} {t : List α} (h : Ord c (x :: t)) : Ord c t := fun i a b ha hb => h (i + 1) a b (by simpa using ha) (by simpa using hb)
theorem Ord.head {c : α → Int} {x y : α} {t : List α} (h : Ord c (x :: y :: t)) : 0 < c y → c x ≤ c y := h 0 x y rfl rfl
theorem Ord.append {c : α → Int} {l m : List α} (h1 : Ord c l) (h2 : Ord c m) (hc : ∀ x y, l.getLast? = some x → m.head? = some y → 0 < c y → c x ≤ c y) : Ord c (l ++ m) := fun i x y hx hy h0 => by
  by_cases h : i + 1 < l.length
  · rw [List.getElem?_append_left (by omega)] at hx
    rw [List.getElem?_append_left h] at hy
    exact h1 i x y hx hy h0
  · by_cases h' : i + 1 = l.length
    · rw [List.getElem?_append_left (by omega)] at hx
      rw [List.getElem?_append_right (by omega), h', Nat.sub_self] at hy
      refine hc x y ?_ ?_ h0
      · rw [List.getLast?_eq_getElem?, show l.length - 1 = i by omega]; exact hx
      · rw [List.head?_eq_getElem?]; exact hy
    · rw [List.getElem?_append_right (by omega)] at hx
      rw [List.getElem?_append_right (by omega), show i + 1 - l.length = i - l.length + 1 by omega] at hy
      exact h2 _ x y hx hy h0
theorem Ord.left {c : α → Int} {l m : List α} (h : Ord c (l ++ m)) : Ord c l := fun i x y hx hy h0 => by
  have := (List.getElem?_eq_some_iff.1 hy).1
  exact h i x y (by rw [List.getElem?_append_left (by omega)]; exact hx) (by rw [List.getElem?_append_left (by omega)]; exact hy) h0
theorem Ord.right {c : α → Int} {l m : List α} (h : Ord c (l ++ m)) : Ord c m := fun i x y hx hy h0 =>
  h (l.length + i) x y (by rw [List.getElem?_append_right (by omega), Nat.add_sub_cancel_left]; exact hx) (by rw [List.getElem?_append_right (by omega), show l.length + i + 1 - l.length = i + 1 by omega]; exact hy) h0
theorem ord_first {c : α → Int} (hc : ∀ x, 0 ≤ c x) {k : Int} {x : α} (hk : 0 < k) (hx : c x = k) : ∀ (t : List α) (y : α) (r : List α), Ord c (y :: t) → (y :: t).filter (P0 c k) = x :: r → 0 < c y ∧ c y ≤ k
  | t, y, r, ho, hf => by
    rw [List.filter_cons] at hf
    by_cases hp : P0 c k y = true
    · rw [if_pos hp] at hf
      injection hf with hf _
      subst hf
      omega
    · rw [if_neg hp] at hf
      have hn : ¬ (c y = 0 ∨ c y = k) := fun h => hp (P0_iff.2 h)
      have h0 := hc y
      cases t with
      | nil => cases hf
      | cons z t =>
        have ih := ord_first hc hk hx t z r ho.tail hf
        have := ho.head ih.1
        omega
theorem filter_head {c : α → Int} {k : Int} {x : α} {t : List α} (h : P0 c k x = true) : (x :: t).filter (P0 c k) = x :: t.filter (P0 c k) := by rw [List.filter_cons, if_pos h]
theorem ord_uniq {c : α → Int} (hc : ∀ x, 0 ≤ c x) : ∀ {u v : List α}, Ord c u → Ord c v → (∀ k, u.filter (P0 c k) = v.filter (P0 c k)) → u = v
  | [], [], _, _, _ => rfl
  | [], y :: v, _, _, h => by
    have := h (c y)
    rw [filter_head (P0_iff.2 (.inr rfl))] at this
    cases this
  | x :: u, [], _, _, h => by
    have := h (c x)
    rw [filter_head (P0_iff.2 (.inr rfl))] at this
    cases this
  | x :: u, y :: v, hu, hv, h => by
    have hxy : x = y := by
      by_cases hx : c x = 0
      · have := h (c y)
        rw [filter_head (P0_iff.2 (.inl hx)), filter_head (P0_iff.2 (.inr rfl))] at this
        injection this
      · by_cases hy : c y = 0
        · have := h (c x)
          rw [filter_head (P0_iff.2 (.inr rfl)), filter_head (P0_iff.2 (.inl hy))] at this
          injection this
        · have h1 := hc x
          have h2 := hc y
          have k1 := h (c x)
          rw [filter_head (P0_iff.2 (.inr rfl))] at k1
          have k2 := h (c y)
          rw [filter_head (t := v) (P0_iff.2 (.inr rfl))] at k2
          have l1 := ord_first hc (by omega) rfl v y _ hv k1.symm
          have l2 := ord_first hc (by omega) rfl u x _ hu k2
          have e : c x = c y := by omega
          rw [filter_head (P0_iff.2 (.inr e.symm))] at k1
          injection k1
    subst hxy
    rw [ord_uniq hc hu.tail hv.tail (fun k => by
      have := h k
      rw [List.filter_cons, List.filter_cons] at this
      split at this
      · injection this
      · exact this)]
def ins (c : α → Int) (x : α) : List α → List α
  | [] => [x]
  | y :: t => if 0 < c x ∧ c x < c y then y :: ins c x t else x :: y :: t
def ordR (c : α → Int) (l : List α) : List α := (l.foldl (fun r x => ins c x r) []).reverse
theorem ins_filter (c : α → Int) (k : Int) (x : α) : ∀ r, (ins c x r).filter (P0 c k) = [x].filter (P0 c k) ++ r.filter (P0 c k)
  | [] => by simp [ins]
  | y :: t => by
    unfold ins
    by_cases h : 0 < c x ∧ c x < c y
    · rw [if_pos h, List.filter_cons, ins_filter c k x t]
      by_cases hy : P0 c k y = true
      · have hx : ¬ P0 c k x = true := fun hx => by
          rw [P0_iff] at hx hy
          omega
        simp [List.filter_cons, hx, hy]
      · simp [List.filter_cons, hy]
    · rw [if_neg h, show x :: y :: t = [x] ++ (y :: t) from rfl, List.filter_append]
theorem ins_ord (c : α → Int) (x : α) : ∀ r, Ord c r.reverse → Ord c (ins c x r).reverse ∧ ∀ z, (ins c x r).head? = some z → z = x ∨ r.head? = some z
  | [], _ => ⟨Ord.one c x, fun z h => by simp [ins] at h; exact .inl h.symm⟩
  | y :: t, h => by
    unfold ins
    by_cases hxy : 0 < c x ∧ c x < c y
    · rw [if_pos hxy, List.reverse_cons]
      rw [List.reverse_cons] at h
      obtain ⟨h1, h2⟩ := ins_ord c x t h.left
      refine ⟨h1.append (Ord.one c y) (fun u v hu hv h0 => ?_), fun z hz => by simp at hz ⊢; exact .inr hz⟩
      rw [List.getLast?_reverse] at hu
      simp only [List.head?_cons, Option.some.injEq] at hv
      subst hv
      rcases h2 u hu with rfl | hu
      · omega
      · cases t with
        | nil => cases hu
        | cons w t =>
          simp only [List.head?_cons, Option.some.injEq] at hu
          subst hu
          rw [List.reverse_cons, List.append_assoc] at h
          exact h.right.head h0
    · rw [if_neg hxy, List.reverse_cons]
      refine ⟨h.append (Ord.one c x) (fun u v hu hv h0 => ?_), fun z hz => by simp at hz; exact .inl hz.symm⟩
      rw [List.getLast?_reverse] at hu
      simp only [List.head?_cons, Option.some.injEq] at hu hv
      subst hu hv
      omega
theorem ordR_ord (c : α → Int) (l : List α) : Ord c (ordR c l) := by
  have key : ∀ (l r : List α), Ord c r.reverse → Ord c (l.foldl (fun r x => ins c x r) r).reverse := by
    intro l
    induction l with
    | nil => intro r h; exact h
    | cons x l ih => intro r h; exact ih _ (ins_ord c x r h).1
  exact key l [] (Ord.nil c)
theorem ordR_filter (c : α → Int) (k : Int) (l : List α) : (ordR c l).filter (P0 c k) = l.filter (P0 c k) := by
  have key : ∀ (l r : List α), (l.foldl (fun r x => ins c x r) r).filter (P0 c k) = (l.filter (P0 c k)).reverse ++ r.filter (P0 c k) := by
    intro l
    induction l with
    | nil => intro r; simp
    | cons x l ih =>
      intro r
      rw [List.foldl_cons, ih, ins_filter, List.filter_cons]
      by_cases hx : P0 c k x = true
      · rw [if_pos hx]; simp [List.filter_cons, hx]
      · rw [if_neg hx]; simp [List.filter_cons, hx]
  unfold ordR
  rw [List.filter_reverse, key]
  simp
theorem ordR_uniq {c : α → Int} (hc : ∀ x, 0 ≤ c x) {l u : List α} (ho : Ord c u) (hf : ∀ k, u.filter (P0 c k) = l.filter (P0 c k)) : u = ordR c l :=
  ord_uniq hc ho (ordR_ord c l) (fun k => (hf k).trans (ordR_filter c k l).symm)
theorem filter_mem {c : α → Int} {u l : List α} (hf : ∀ k, u.filter (P0 c k) = l.filter (P0 c k)) {x : α} (h : x ∈ u) : x ∈ l := by
  have : x ∈ u.filter (P0 c (c x)) := List.mem_filter.2 ⟨h, P0_iff.2 (.inr rfl)⟩
  rw [hf] at this
  exact (List.mem_filter.1 this).1
theorem ordR_mem {c : α → Int} {l : List α} {x : α} : x ∈ ordR c l ↔ x ∈ l := ⟨filter_mem (fun k => ordR_filter c k l), filter_mem (fun k => (ordR_filter c k l).symm)⟩
theorem ins_length (c : α → Int) (x : α) : ∀ r, (ins c x r).length = r.length + 1
  | [] => rfl
  | y :: t => by
    unfold ins
    split
    · simp [ins_length c x t]
    · simp
theorem ordR_length (c : α → Int) (l : List α) : (ordR c l).length = l.length := by
  have key : ∀ (l r : List α), (l.foldl (fun r x => ins c x r) r).length = l.length + r.length := by
    intro l
    induction l with
    | nil => intro r; simp
    | cons x l ih => intro r; rw [List.foldl_cons, ih, ins_length]; simp; omega
  unfold ordR
  rw [List.length_reverse, key]
  simp
end
def flat (D : PD) (l : List Int) : List Int := l.flatMap (wholeOf D)
def decN (D : PD) (l : List Int) : List Int := ordR (classOf D) (flat D l)
theorem flat_append (D : PD) (l m : List Int) : flat D (l ++ m) = flat D l ++ flat D m := List.flatMap_append
theorem flat_cons (D : PD) (x : Int) (l : List Int) : flat D (x :: l) = wholeOf D x ++ flat D l := List.flatMap_cons
theorem flat_leaf {D : PD} : ∀ {l : List Int}, (∀ x ∈ l, decompOf D x = []) → flat D l = l
  | [], _ => rfl
  | x :: l, h => by
    rw [flat_cons, whole_leaf (h x (by simp)), flat_leaf (fun y hy => h y (by simp [hy]))]
    rfl
theorem Good.nn {D : PD} (h : Good D) : ∀ x, 0 ≤ classOf D x := fun x => (h.cls x).1
theorem dec_uniq {D : PD} (h : Good D) {l u : List Int} (ho : Ord (classOf D) u) (hf : ∀ k, u.filter (P0 (classOf D) k) = (flat D l).filter (P0 (classOf D) k)) : u = decN D l := ordR_uniq h.nn ho hf
theorem dec_ord (D : PD) (l : List Int) : Ord (classOf D) (decN D l) := ordR_ord _ _
theorem dec_filter (D : PD) (k : Int) (l : List Int) : (decN D l).filter (P0 (classOf D) k) = (flat D l).filter (P0 (classOf D) k) := ordR_filter _ _ _
theorem dec_mem {D : PD} {l : List Int} {x : Int} : x ∈ decN D l ↔ ∃ r ∈ l, x ∈ wholeOf D r := by
  unfold decN
  rw [ordR_mem]
  exact List.mem_flatMap
theorem dec_leaf {D : PD} (h : Good D) {l : List Int} {x : Int} (hx : x ∈ decN D l) : decompOf D x = [] := by
  obtain ⟨r, _, hr⟩ := dec_mem.1 hx
  exact h.leaf hr
theorem dec_flat {D : PD} (h : Good D) (l : List Int) : flat D (decN D l) = decN D l := flat_leaf (fun x hx => dec_leaf h hx)
theorem flat_length {D : PD} (h : Good D) : ∀ l, l.length ≤ (flat D l).length ∧ (flat D l).length ≤ 8 * l.length
  | [] => by simp [flat]
  | x :: l => by
    have h1 := h.len x
    have h2 := flat_length h l
    rw [flat_cons, List.length_append, List.length_cons]
    omega
theorem dec_nil (D : PD) : decN D [] = [] := rfl
def push (D : PD) (o : List Int × Option Nat) (c : Int) : List Int × Option Nat := (o.1 ++ [c], if classOf D c = 0 then some o.1.length else o.2)
def free (D : PD) (o : List Int) (s : Nat) (c : Int) : Prop := s + 1 = o.length ∨ classOf D (o.getD (o.length - 1) 0) < classOf D c
instance (D : PD) (o : List Int) (s : Nat) (c : Int) : Decidable (free D o s c) := by unfold free; infer_instance
def compStep (D : PD) (o : List Int × Option Nat) (c : Int) : List Int × Option Nat :=
  match o.2 with
  | none => push D o c
  | some s => if free D o.1 s c then (match composeOf D (o.1.getD s 0) c with | some r => (o.1.set s r, some s) | none => push D o c) else push D o c
def compF (D : PD) (d : List Int) : List Int := (d.foldl (compStep D) ([], none)).1
def compN (D : PD) (l : List Int) : List Int := compF D (decN D l)
theorem whole_compose {D : PD} (h : Good D) {a b r : Int} (hc : composeOf D a b = some r) (hb : decompOf D b = []) : wholeOf D r = wholeOf D a ++ [b] := by
  obtain ⟨st, rfl, hok⟩ := h.ok
  have hd := (compose_back hok hc).2
  have hne : decompOf st.d r ≠ [] := by rw [hd]; simp
  rw [h.step hne, hd, List.flatMap_append]
  congr 1
  · split
    · rename_i hs
      simp only [Bool.and_eq_true] at hs
      have : decompOf st.d a ≠ [] := by unfold decompOf; rw [if_pos hs.2]; unfold sylOf; simp
      rw [h.step this]
    · simp
  · simp [whole_leaf hb]
structure CI (D : PD) (p : List Int) (o : List Int × Option Nat) : Prop where
  same : ∀ k, (flat D o.1).filter (P0 (classOf D) k) = p.filter (P0 (classOf D) k)
  shape : ∀ s, o.2 = some s → ∃ A a B, o.1 = A ++ (a :: B) ∧ s = A.length ∧ (∀ b ∈ B, 0 < classOf D b ∧ decompOf D b = []) ∧ B.Pairwise (fun x y => classOf D x ≤ classOf D y) ∧ ∀ b ∈ B, ∀ z, p.getLast? = some z → 0 < classOf D z ∧ classOf D b ≤ classOf D z
theorem CI.zero (D : PD) : CI D [] ([], none) := ⟨fun k => rfl, fun s h => by cases h⟩
theorem CI.push {D : PD} (h : Good D) {p : List Int} {o : List Int × Option Nat} {c : Int} (hi : CI D p o) (hc : decompOf D c = []) (ho : ∀ z, p.getLast? = some z → 0 < classOf D c → classOf D z ≤ classOf D c) (hne : o.1 ≠ [] → p ≠ []) : CI D (p ++ [c]) (push D o c) := by
  refine ⟨fun k => ?_, fun s hs => ?_⟩
  · unfold Nm.push
    rw [flat_append, List.filter_append, List.filter_append, hi.same, flat_leaf (l := [c]) (fun x hx => by rw [List.mem_singleton] at hx; rw [hx]; exact hc)]
  · unfold Nm.push at hs ⊢
    by_cases h0 : classOf D c = 0
    · simp only [if_pos h0, Option.some.injEq] at hs
      subst hs
      exact ⟨o.1, c, [], rfl, rfl, by simp, List.Pairwise.nil, by simp⟩
    · simp only [if_neg h0] at hs
      have hpos : 0 < classOf D c := by have := h.nn c; omega
      obtain ⟨A, a, B, e, es, h1, h2, h3⟩ := hi.shape s hs
      have hlast : ∃ z, p.getLast? = some z := by
        have : p ≠ [] := hne (by rw [e]; simp)
        cases hz : p.getLast? with
        | none => rw [List.getLast?_eq_none_iff] at hz; exact absurd hz this
        | some z => exact ⟨z, rfl⟩
      obtain ⟨z, hz⟩ := hlast
      have hle : ∀ b ∈ B, classOf D b ≤ classOf D c := fun b hb => Int.le_trans (h3 b hb z hz).2 (ho z hz hpos)
      refine ⟨A, a, B ++ [c], by simp [e], es, fun b hb => ?_, ?_, fun b hb z' hz' => ?_⟩
      · rcases List.mem_append.1 hb with hb | hb
        · exact h1 b hb
        · rw [List.mem_singleton] at hb
          subst hb
          exact ⟨hpos, hc⟩
      · rw [List.pairwise_append]
        exact ⟨h2, List.pairwise_singleton _ _, fun b hb y hy => by rw [List.mem_singleton] at hy; subst hy; exact hle b hb⟩
      · rw [List.getLast?_append] at hz'
        simp only [List.getLast?_singleton, Option.some_or, Option.some.injEq] at hz'
        subst hz'
        refine ⟨hpos, ?_⟩
        rcases List.mem_append.1 hb with hb | hb
        · exact hle b hb
        · rw [List.mem_singleton] at hb
          subst hb
          exact Int.le_refl _
theorem getD_mid (A B : List Int) (a : Int) : (A ++ (a :: B)).getD A.length 0 = a := by simp [List.getD]
theorem set_mid (A B : List Int) (a r : Int) : (A ++ (a :: B)).set A.length r = A ++ (r :: B) := by
  rw [List.set_append_right _ _ (Nat.le_refl _), Nat.sub_self, List.set_cons_zero]
theorem CI.comp {D : PD} (h : Good D) {p : List Int} {o : List Int × Option Nat} {c r : Int} {s : Nat} (hi : CI D p o) (hs : o.2 = some s) (hf : free D o.1 s c) (hr : composeOf D (o.1.getD s 0) c = some r) (hc : decompOf D c = []) (ho : ∀ z, p.getLast? = some z → 0 < classOf D c → classOf D z ≤ classOf D c) :
    CI D (p ++ [c]) (o.1.set s r, some s) := by
  obtain ⟨A, a, B, e, es, h1, h2, h3⟩ := hi.shape s hs
  have hBc : ∀ b ∈ B, classOf D b < classOf D c := by
    intro b hb
    unfold free at hf
    rw [e] at hf
    have hBl : 0 < B.length := List.length_pos_of_mem hb
    rcases hf with hf | hf
    · simp at hf; omega
    · have hlast : (A ++ (a :: B)).getD ((A ++ (a :: B)).length - 1) 0 = B.getD (B.length - 1) 0 := by
        simp only [List.length_append, List.length_cons, List.getD]
        rw [List.getElem?_append_right (by omega), show A.length + (B.length + 1) - 1 - A.length = (B.length - 1) + 1 by omega, List.getElem?_cons_succ]
      rw [hlast] at hf
      obtain ⟨i, hi, ei⟩ := List.getElem_of_mem hb
      have hgl : B.getD (B.length - 1) 0 = B[B.length - 1] := by simp [List.getD, List.getElem?_eq_getElem (show B.length - 1 < B.length by omega)]
      rw [hgl] at hf
      by_cases hil : i = B.length - 1
      · subst hil
        rw [← ei]; exact hf
      · have := List.pairwise_iff_getElem.1 h2 i (B.length - 1) hi (by omega) (by omega)
        rw [ei] at this
        omega
  rw [e, es, getD_mid] at hr
  refine ⟨fun k => ?_, fun s' hs' => ?_⟩
  · show (flat D (o.1.set s r)).filter _ = _
    have hsame := hi.same k
    rw [e] at hsame
    rw [e, es, set_mid, List.filter_append, ← hsame]
    have hB : flat D B = B := flat_leaf (fun x hx => (h1 x hx).2)
    rw [flat_append, flat_append, flat_cons, flat_cons, whole_compose h hr hc, hB]
    simp only [List.filter_append, List.append_assoc]
    congr 2
    by_cases hck : P0 (classOf D) k c = true
    · have hBn : B.filter (P0 (classOf D) k) = [] ∨ B = [] := by
        by_cases hB0 : B = []
        · exact .inr hB0
        · left
          rw [List.filter_eq_nil_iff]
          intro b hb hp
          have k1 := hBc b hb
          have k2 := (h1 b hb).1
          rw [P0_iff] at hp hck
          omega
      rcases hBn with hBn | hBn
      · rw [hBn]; simp
      · rw [hBn]; simp
    · have : [c].filter (P0 (classOf D) k) = [] := by simp [List.filter_cons, hck]
      rw [this]; simp
  · simp only [Option.some.injEq] at hs'
    subst hs'
    refine ⟨A, r, B, by show o.1.set s r = _; rw [e, es, set_mid], es, h1, h2, fun b hb z hz => ?_⟩
    rw [List.getLast?_append] at hz
    simp only [List.getLast?_singleton, Option.some_or, Option.some.injEq] at hz
    subst hz
    have k1 := hBc b hb
    have k2 := (h1 b hb).1
    omega
theorem comp_inv {D : PD} (h : Good D) : ∀ (d p : List Int) (o : List Int × Option Nat), Ord (classOf D) (p ++ d) → (∀ x ∈ d, decompOf D x = []) → CI D p o → (o.1 ≠ [] → p ≠ []) → CI D (p ++ d) (d.foldl (compStep D) o)
  | [], p, o, _, _, hi, _ => by rw [List.append_nil]; exact hi
  | c :: d, p, o, ho, hd, hi, hne => by
    have hc := hd c (by simp)
    have hoc : ∀ z, p.getLast? = some z → 0 < classOf D c → classOf D z ≤ classOf D c := by
      intro z hz h0
      rw [List.getLast?_eq_getElem?] at hz
      have hl := (List.getElem?_eq_some_iff.1 hz).1
      refine ho (p.length - 1) z c ?_ ?_ h0
      · rw [List.getElem?_append_left hl]; exact hz
      · rw [List.getElem?_append_right (by omega), show p.length - 1 + 1 - p.length = 0 by omega]; rfl
    rw [show p ++ c :: d = (p ++ [c]) ++ d by simp] at ho ⊢
    rw [List.foldl_cons]
    refine comp_inv h d (p ++ [c]) _ ho (fun x hx => hd x (by simp [hx])) ?_ (fun _ => by simp)
    unfold compStep
    cases hs : o.2 with
    | none => exact hi.push h hc hoc hne
    | some s =>
      simp only
      split
      · rename_i hf
        cases hr : composeOf D (o.1.getD s 0) c with
        | none => exact hi.push h hc hoc hne
        | some r => exact hi.comp h hs hf hr hc hoc
      · exact hi.push h hc hoc hne
theorem dec_comp {D : PD} (h : Good D) (l : List Int) : decN D (compN D l) = decN D l := by
  have hi := comp_inv h (decN D l) [] ([], none) (dec_ord D l) (fun x hx => dec_leaf h hx) (CI.zero D) (fun e => absurd rfl e)
  exact (dec_uniq h (dec_ord D l) (fun k => (hi.same k).symm)).symm
theorem compStep_length (D : PD) (o : List Int × Option Nat) (c : Int) : (compStep D o c).1.length ≤ o.1.length + 1 := by
  unfold compStep push
  split
  · simp
  · split
    · split
      · simp
      · simp
    · simp
theorem comp_length (D : PD) (l : List Int) : (compN D l).length ≤ (decN D l).length := by
  have key : ∀ (d : List Int) (o : List Int × Option Nat), (d.foldl (compStep D) o).1.length ≤ o.1.length + d.length := by
    intro d
    induction d with
    | nil => intro o; simp
    | cons c d ih =>
      intro o
      have := ih (compStep D o c)
      have := compStep_length D o c
      rw [List.foldl_cons, List.length_cons]
      omega
  have := key (decN D l) ([], none)
  simp at this
  exact this
def settled (c : Int → Int) : List Int → Nat
  | [] => 0
  | x :: t => if settled c t = 0 then (if c x = 0 then 1 else 0) else settled c t + 1
structure IsSet (c : Int → Int) (d : List Int) (n : Nat) : Prop where
  le : n ≤ d.length
  zero : n = 0 ∨ ∃ x, d[n - 1]? = some x ∧ c x = 0
  rest : ∀ i x, n ≤ i → d[i]? = some x → c x ≠ 0
theorem IsSet.uniq {c : Int → Int} {d : List Int} {n m : Nat} (h : IsSet c d n) (k : IsSet c d m) : n = m := by
  have key : ∀ {n m : Nat}, IsSet c d n → IsSet c d m → n ≤ m := by
    intro n m h k
    rcases h.zero with e | ⟨x, hx, h0⟩
    · omega
    · by_cases hle : n ≤ m
      · exact hle
      · exact absurd h0 (k.rest (n - 1) x (by omega) hx)
  have := key h k
  have := key k h
  omega
theorem settled_is (c : Int → Int) : ∀ d, IsSet c d (settled c d)
  | [] => ⟨Nat.le_refl _, .inl rfl, fun i x _ h => by simp at h⟩
  | y :: t => by
    have ih := settled_is c t
    unfold settled
    by_cases h0 : settled c t = 0
    · rw [if_pos h0]
      have hr : ∀ i x, t[i]? = some x → c x ≠ 0 := fun i x => ih.rest i x (by omega)
      by_cases hy : c y = 0
      · rw [if_pos hy]
        refine ⟨by simp, .inr ⟨y, rfl, hy⟩, fun i x hi hx => ?_⟩
        obtain ⟨j, rfl⟩ : ∃ j, i = j + 1 := ⟨i - 1, by omega⟩
        exact hr j x (by simpa using hx)
      · rw [if_neg hy]
        refine ⟨by simp, .inl rfl, fun i x hi hx => ?_⟩
        cases i with
        | zero => simp at hx; subst hx; exact hy
        | succ j => exact hr j x (by simpa using hx)
    · rw [if_neg h0]
      refine ⟨by have := ih.le; simp; omega, .inr ?_, fun i x hi hx => ?_⟩
      · rcases ih.zero with e | ⟨x, hx, hz⟩
        · exact absurd e h0
        · refine ⟨x, ?_, hz⟩
          rw [show settled c t + 1 - 1 = (settled c t - 1) + 1 by omega, List.getElem?_cons_succ]
          exact hx
      · obtain ⟨j, rfl⟩ : ∃ j, i = j + 1 := ⟨i - 1, by omega⟩
        exact ih.rest j x (by omega) (by simpa using hx)
theorem IsSet.more {c : Int → Int} {d t : List Int} {n m : Nat} (h : IsSet c d n) (k : IsSet c t m) : IsSet c (d.take n ++ t) (n + m) := by
  have hl := h.le
  have hk := k.le
  have ht : (d.take n).length = n := by rw [List.length_take]; omega
  refine ⟨by rw [List.length_append, ht]; omega, ?_, fun i x hi hx => ?_⟩
  · by_cases hm : m = 0
    · by_cases hn : n = 0
      · exact .inl (by omega)
      · obtain ⟨x, hx, h0⟩ := h.zero.resolve_left hn
        refine .inr ⟨x, ?_, h0⟩
        rw [List.getElem?_append_left (by omega), List.getElem?_take, if_pos (by omega), hm]
        exact hx
    · obtain ⟨x, hx, h0⟩ := k.zero.resolve_left hm
      refine .inr ⟨x, ?_, h0⟩
      rw [List.getElem?_append_right (by omega), ht, show n + m - 1 - n = m - 1 by omega]
      exact hx
  · rw [List.getElem?_append_right (by omega), ht] at hx
    exact k.rest (i - n) x (by omega) hx
theorem dec_more {D : PD} (h : Good D) (l m : List Int) {n : Nat} (hn : IsSet (classOf D) (decN D l) n) : decN D (l ++ m) = (decN D l).take n ++ decN D ((decN D l).drop n ++ m) := by
  refine (dec_uniq h (Ord.append ?_ (dec_ord D _) (fun x y hx hy h0 => ?_)) (fun k => ?_)).symm
  · have := dec_ord D l
    rw [← List.take_append_drop n (decN D l)] at this
    exact this.left
  · by_cases hn0 : n = 0
    · rw [hn0, List.take_zero] at hx; cases hx
    · obtain ⟨z, hz, hz0⟩ : ∃ z, (decN D l)[n - 1]? = some z ∧ classOf D z = 0 := hn.zero.resolve_left hn0
      have hl := hn.le
      have hz' : ((decN D l).take n).getLast? = some z := by
        rw [List.getLast?_eq_getElem?, List.length_take, List.getElem?_take]
        have := (List.getElem?_eq_some_iff.1 hz).1
        rw [show min n (decN D l).length - 1 = n - 1 by omega, if_pos (by omega)]
        exact hz
      rw [hz'] at hx
      injection hx with hx
      subst hx
      rw [hz0]; omega
  · rw [List.filter_append, dec_filter, flat_append, flat_append, List.filter_append, List.filter_append, flat_leaf (l := (decN D l).drop n) (fun x hx => dec_leaf h (List.mem_of_mem_drop hx)), ← dec_filter D k l, ← List.append_assoc, ← List.filter_append, List.take_append_drop]
end Go.Proofs.YtikpkjpnehkbfaaGreatDoor.Nm
namespace Go.Proofs.YtikpkjpnehkbfaaGreatDoor.Sb
variable {α : Type}
structure Mv (key : α → Int) (a b : Nat) (l l' : List α) : Prop where
  len : l'.length = l.length
  out : ∀ t, t < a ∨ b ≤ t → l'[t]? = l[t]?
  sub : ∀ t x, a ≤ t → t < b → l'[t]? = some x → ∃ s, a ≤ s ∧ s < b ∧ l[s]? = some x
  keep : ∀ P : α → Bool, (∀ i j x y, a ≤ i → i < b → a ≤ j → j < b → l[i]? = some x → l[j]? = some y → P x = true → P y = true → key x = key y) → l'.filter P = l.filter P
theorem Mv.refl (key : α → Int) (a b : Nat) (l : List α) : Mv key a b l l := ⟨rfl, fun _ _ => rfl, fun t x h1 h2 h3 => ⟨t, h1, h2, h3⟩, fun _ _ => rfl⟩
theorem Mv.trans {key : α → Int} {a b : Nat} {l m n : List α} (h : Mv key a b l m) (k : Mv key a b m n) : Mv key a b l n := by
  refine ⟨k.len.trans h.len, fun t ht => (k.out t ht).trans (h.out t ht), fun t x h1 h2 h3 => ?_, fun P hP => ?_⟩
  · obtain ⟨s, s1, s2, s3⟩ := k.sub t x h1 h2 h3
    exact h.sub s x s1 s2 s3
  · rw [k.keep P (fun i j x y i1 i2 j1 j2 hx hy px py => ?_), h.keep P hP]
    obtain ⟨s, s1, s2, s3⟩ := h.sub i x i1 i2 hx
    obtain ⟨t, t1, t2, t3⟩ := h.sub j y j1 j2 hy
    exact hP s t x y s1 s2 t1 t2 s3 t3 px py
theorem Mv.wide {key : α → Int} {a b a' b' : Nat} {l m : List α} (h : Mv key a b l m) (ha : a' ≤ a) (hb : b ≤ b') : Mv key a' b' l m := by
  refine ⟨h.len, fun t ht => h.out t (by omega), fun t x h1 h2 h3 => ?_, fun P hP => h.keep P (fun i j x y i1 i2 j1 j2 => hP i j x y (by omega) (by omega) (by omega) (by omega))⟩
  by_cases hin : a ≤ t ∧ t < b
  · obtain ⟨s, s1, s2, s3⟩ := h.sub t x hin.1 hin.2 h3
    exact ⟨s, by omega, by omega, s3⟩
  · exact ⟨t, h1, h2, by rw [← h.out t (by omega)]; exact h3⟩
theorem get_block {P X Y S : List α} {t : Nat} {x : α} (h : (P ++ (Y ++ (X ++ S)))[t]? = some x) (h1 : P.length ≤ t) (h2 : t < P.length + X.length + Y.length) :
    ∃ s, P.length ≤ s ∧ s < P.length + X.length + Y.length ∧ (P ++ (X ++ (Y ++ S)))[s]? = some x := by
  rw [List.getElem?_append_right h1] at h
  by_cases hy : t - P.length < Y.length
  · rw [List.getElem?_append_left hy] at h
    refine ⟨t + X.length, by omega, by omega, ?_⟩
    rw [List.getElem?_append_right (by omega), List.getElem?_append_right (by omega), show t + X.length - P.length - X.length = t - P.length by omega, List.getElem?_append_left hy]
    exact h
  · rw [List.getElem?_append_right (by omega), List.getElem?_append_left (by omega)] at h
    refine ⟨t - Y.length, by omega, by omega, ?_⟩
    rw [List.getElem?_append_right (by omega), show t - Y.length - P.length = t - P.length - Y.length by omega, List.getElem?_append_left (by omega)]
    exact h
theorem Mv.block {key : α → Int} {a b : Nat} (P X Y S : List α) (ha : a ≤ P.length) (hb : P.length + X.length + Y.length ≤ b) (hlt : ∀ x ∈ X, ∀ y ∈ Y, key y < key x) :
    Mv key a b (P ++ (X ++ (Y ++ S))) (P ++ (Y ++ (X ++ S))) := by
  refine Mv.wide (a := P.length) (b := P.length + X.length + Y.length) ⟨by simp; omega, fun t ht => ?_, fun t x h1 h2 h3 => get_block h3 h1 h2, fun Q hQ => ?_⟩ ha hb
  · rcases ht with ht | ht
    · rw [List.getElem?_append_left ht, List.getElem?_append_left ht]
    · rw [List.getElem?_append_right (by omega), List.getElem?_append_right (by omega), List.getElem?_append_right (by omega), List.getElem?_append_right (by omega), List.getElem?_append_right (by omega), List.getElem?_append_right (by omega)]
      congr 1
      omega
  · simp only [List.filter_append]
    congr 1
    rw [← List.append_assoc, ← List.append_assoc]
    congr 1
    by_cases hx : X.filter Q = []
    · rw [hx]; simp
    · by_cases hy : Y.filter Q = []
      · rw [hy]; simp
      · exfalso
        obtain ⟨x, hx⟩ := List.exists_mem_of_ne_nil _ hx
        obtain ⟨y, hy⟩ := List.exists_mem_of_ne_nil _ hy
        rw [List.mem_filter] at hx hy
        obtain ⟨i, hi, ei⟩ := List.getElem_of_mem hx.1
        obtain ⟨j, hj, ej⟩ := List.getElem_of_mem hy.1
        have := hQ (P.length + i) (P.length + X.length + j) x y (by omega) (by omega) (by omega) (by omega)
          (by rw [List.getElem?_append_right (by omega), show P.length + i - P.length = i by omega, List.getElem?_append_left hi, ← ei]; exact List.getElem?_eq_getElem hi)
          (by rw [List.getElem?_append_right (by omega), List.getElem?_append_right (by omega), show P.length + X.length + j - P.length - X.length = j by omega, List.getElem?_append_left hj, ← ej]; exact List.getElem?_eq_getElem hj)
          hx.2 hy.2
        have := hlt x hx.1 y hy.1
        omega
def Srt (key : α → Int) (a b : Nat) (l : List α) : Prop := ∀ i j x y, a ≤ i → i < j → j < b → l[i]? = some x → l[j]? = some y → key x ≤ key y
theorem Srt.sub {key : α → Int} {a b a' b' : Nat} {l : List α} (h : Srt key a b l) (ha : a ≤ a') (hb : b' ≤ b) : Srt key a' b' l := fun i j x y h1 h2 h3 => h i j x y (by omega) h2 (by omega)
theorem Srt.same {key : α → Int} {a b : Nat} {l m : List α} (h : Srt key a b l) (he : ∀ t, a ≤ t → t < b → m[t]? = l[t]?) : Srt key a b m := fun i j x y h1 h2 h3 hx hy => h i j x y h1 h2 h3 (by rw [← he i h1 (by omega)]; exact hx) (by rw [← he j (by omega) h3]; exact hy)
theorem Srt.le {key : α → Int} {a b : Nat} {l : List α} (h : Srt key a b l) {i j : Nat} {x y : α} (h1 : a ≤ i) (h2 : i ≤ j) (h3 : j < b) (hx : l[i]? = some x) (hy : l[j]? = some y) : key x ≤ key y := by
  by_cases e : i = j
  · subst e; rw [hx] at hy; injection hy with hy; rw [hy]; exact Int.le_refl _
  · exact h i j x y h1 (by omega) h3 hx hy
theorem Srt.short (key : α → Int) {a b : Nat} (l : List α) (h : b ≤ a + 1) : Srt key a b l := fun i j x y h1 h2 h3 => by omega
theorem Srt.join {key : α → Int} {a m b : Nat} {l : List α} (h : Srt key a m l) (k : Srt key m b l) (hc : ∀ i j x y, a ≤ i → i < m → m ≤ j → j < b → l[i]? = some x → l[j]? = some y → key x ≤ key y) : Srt key a b l := fun i j x y h1 h2 h3 hx hy => by
  by_cases hj : j < m
  · exact h i j x y h1 h2 hj hx hy
  · by_cases hi : m ≤ i
    · exact k i j x y hi h2 h3 hx hy
    · exact hc i j x y h1 (by omega) (by omega) h3 hx hy
theorem cut_at {l : List α} {i : Nat} {x : α} (h : l[i]? = some x) : l = l.take i ++ x :: l.drop (i + 1) := by
  obtain ⟨hi, e⟩ := List.getElem?_eq_some_iff.1 h
  rw [← e, List.getElem_cons_drop, List.take_append_drop]
theorem exch_eq (P M S : List α) (x y : α) {i j : Nat} (hi : i = P.length) (hj : j = P.length + 1 + M.length) : ((P ++ (x :: (M ++ (y :: S)))).set i y).set j x = P ++ (y :: (M ++ (x :: S))) := by
  subst hi hj
  rw [List.set_append_right _ _ (Nat.le_refl _), Nat.sub_self, List.set_cons_zero, List.set_append_right _ _ (by omega), show P.length + 1 + M.length - P.length = M.length + 1 by omega, List.set_cons_succ, List.set_append_right _ _ (Nat.le_refl _), Nat.sub_self, List.set_cons_zero]
theorem Mv.swap {key : α → Int} {a b : Nat} {l : List α} {i : Nat} {x y : α} (hx : l[i]? = some x) (hy : l[i + 1]? = some y) (ha : a ≤ i) (hb : i + 1 < b) (hlt : key y < key x) : Mv key a b l ((l.set i y).set (i + 1) x) := by
  obtain ⟨hi, _⟩ := List.getElem?_eq_some_iff.1 hx
  have e1 := cut_at hx
  have hy' : (l.drop (i + 1))[0]? = some y := by rw [List.getElem?_drop]; exact hy
  have e2 := cut_at hy'
  rw [List.take_zero, List.nil_append] at e2
  have e : l = l.take i ++ ([x] ++ ([y] ++ (l.drop (i + 1)).drop 1)) := by
    conv => lhs; rw [e1, e2]
    rfl
  have hl : (l.take i).length = i := by rw [List.length_take]; omega
  generalize l.take i = P at *
  generalize (l.drop (i + 1)).drop 1 = S at *
  subst e
  rw [show P ++ ([x] ++ ([y] ++ S)) = P ++ (x :: ([] ++ (y :: S))) from rfl, exch_eq P [] S x y hl.symm (by simp [hl])]
  exact Mv.block P [x] [y] S (by omega) (by simp only [List.length_cons, List.length_nil]; omega) (fun u hu v hv => by
    rw [List.mem_singleton] at hu hv
    subst hu hv
    exact hlt)
structure Ins (key : α → Int) (a i j : Nat) (l : List α) : Prop where
  rest : ∀ p q x y, a ≤ p → p < q → q ≤ i → p ≠ j → q ≠ j → l[p]? = some x → l[q]? = some y → key x ≤ key y
  up : ∀ q x y, j < q → q ≤ i → l[j]? = some x → l[q]? = some y → key x ≤ key y
theorem Ins.start {key : α → Int} {a i : Nat} {l : List α} (h : Srt key a i l) : Ins key a i i l := ⟨fun p q x y h1 h2 h3 h4 h5 => h p q x y h1 h2 (by omega), fun q x y h1 h2 => by omega⟩
theorem Ins.done {key : α → Int} {a i j : Nat} {l : List α} (h : Ins key a i j l) (haj : a ≤ j) (hji : j ≤ i) (hs : j = a ∨ ∃ x y, l[j]? = some x ∧ l[j - 1]? = some y ∧ ¬ key x < key y) : Srt key a (i + 1) l := by
  intro p q x y h1 h2 h3 hx hy
  by_cases hp : p = j
  · subst hp; exact h.up q x y h2 (by omega) hx hy
  · by_cases hq : q = j
    · subst hq
      rcases hs with rfl | ⟨u, v, hu, hv, hn⟩
      · omega
      · rw [hy] at hu
        injection hu with hu
        subst hu
        by_cases hpj : p = q - 1
        · subst hpj; rw [hx] at hv; injection hv with hv; subst hv; omega
        · have := h.rest p (q - 1) x v h1 (by omega) (by omega) hp (by omega) hx hv
          omega
    · exact h.rest p q x y h1 h2 (by omega) hp hq hx hy
theorem set2_get {l : List α} {i : Nat} {x y : α} (hi : i + 1 < l.length) (t : Nat) : ((l.set i y).set (i + 1) x)[t]? = if t = i then some y else if t = i + 1 then some x else l[t]? := by
  rw [List.getElem?_set, List.getElem?_set, List.length_set]
  by_cases h1 : t = i
  · subst h1
    simp [show t < l.length by omega]
  · by_cases h2 : t = i + 1
    · subst h2
      simp [hi]
    · rw [if_neg (fun e => h2 e.symm), if_neg (fun e => h1 e.symm), if_neg h1, if_neg h2]
theorem Ins.step {key : α → Int} {a i j : Nat} {l : List α} {x y : α} (h : Ins key a i (j + 1) l) (haj : a ≤ j) (hji : j + 1 ≤ i) (hil : i < l.length) (hx : l[j]? = some x) (hy : l[j + 1]? = some y) (hlt : key y < key x) : Ins key a i j ((l.set j y).set (j + 1) x) := by
  have hg := set2_get (l := l) (i := j) (x := x) (y := y) (by omega)
  refine ⟨fun p q u v h1 h2 h3 h4 h5 hu hv => ?_, fun q u v h1 h2 hu hv => ?_⟩
  · rw [hg, if_neg h4] at hu
    rw [hg, if_neg h5] at hv
    by_cases hp : p = j + 1
    · subst hp
      rw [if_pos rfl] at hu
      rw [if_neg (by omega)] at hv
      injection hu with hu
      subst hu
      exact h.rest j q x v haj (by omega) h3 (by omega) (by omega) hx hv
    · rw [if_neg hp] at hu
      by_cases hq : q = j + 1
      · subst hq
        rw [if_pos rfl] at hv
        injection hv with hv
        subst hv
        exact h.rest p j u x h1 (by omega) (by omega) hp (by omega) hu hx
      · rw [if_neg hq] at hv
        exact h.rest p q u v h1 h2 h3 hp hq hu hv
  · rw [hg, if_pos rfl] at hu
    injection hu with hu
    subst hu
    rw [hg, if_neg (by omega)] at hv
    by_cases hq : q = j + 1
    · subst hq
      rw [if_pos rfl] at hv
      injection hv with hv
      subst hv
      omega
    · rw [if_neg hq] at hv
      exact h.up q y v (by omega) h2 hy hv
theorem three {l : List α} {a m b : Nat} (h1 : a ≤ m) (h2 : m ≤ b) (h3 : b ≤ l.length) : l = l.take a ++ ((l.take m).drop a ++ ((l.take b).drop m ++ l.drop b)) ∧ (l.take a).length = a ∧ ((l.take m).drop a).length = m - a ∧ ((l.take b).drop m).length = b - m := by
  refine ⟨?_, by simp; omega, by simp; omega, by simp; omega⟩
  have e1 : l.take m = l.take a ++ (l.take m).drop a := by
    conv => lhs; rw [← List.take_append_drop a (l.take m), List.take_take, Nat.min_eq_left h1]
  have e2 : l.take b = l.take m ++ (l.take b).drop m := by
    conv => lhs; rw [← List.take_append_drop m (l.take b), List.take_take, Nat.min_eq_left h2]
  conv => lhs; rw [← List.take_append_drop b l, e2, e1]
  simp only [List.append_assoc]
def turn (a m b : Nat) (l : List α) : List α := l.take a ++ ((l.take b).drop m ++ ((l.take m).drop a ++ l.drop b))
theorem turn_get {l : List α} {a m b : Nat} (h1 : a ≤ m) (h2 : m ≤ b) (h3 : b ≤ l.length) (t : Nat) : (turn a m b l)[t]? = if t < a then l[t]? else if t < a + (b - m) then l[t + (m - a)]? else if t < b then l[t - (b - m)]? else l[t]? := by
  obtain ⟨e, l1, l2, l3⟩ := three h1 h2 h3
  have eg : ∀ t : Nat, l[t]? = (l.take a ++ ((l.take m).drop a ++ ((l.take b).drop m ++ l.drop b)))[t]? := fun t => by rw [← e]
  unfold turn
  by_cases c1 : t < a
  · rw [if_pos c1, List.getElem?_append_left (by omega), List.getElem?_take, if_pos c1]
  · rw [if_neg c1, List.getElem?_append_right (by omega)]
    by_cases c2 : t < a + (b - m)
    · rw [if_pos c2, List.getElem?_append_left (by omega), eg (t + (m - a)), List.getElem?_append_right (by omega), List.getElem?_append_right (by omega), List.getElem?_append_left (by omega)]
      congr 1
      omega
    · rw [if_neg c2, List.getElem?_append_right (by omega)]
      by_cases c3 : t < b
      · rw [if_pos c3, List.getElem?_append_left (by omega), eg (t - (b - m)), List.getElem?_append_right (by omega), List.getElem?_append_left (by omega)]
        congr 1
        omega
      · rw [if_neg c3, List.getElem?_append_right (by omega), eg t, List.getElem?_append_right (by omega), List.getElem?_append_right (by omega), List.getElem?_append_right (by omega)]
        congr 1
        omega
theorem turn_same {l : List α} {a m b : Nat} (h1 : a ≤ m) (h2 : m ≤ b) (h3 : b ≤ l.length) (h : a = m ∨ m = b) : turn a m b l = l := by
  refine List.ext_getElem? fun t => ?_
  rw [turn_get h1 h2 h3]
  rcases h with rfl | rfl
  · by_cases c1 : t < a
    · rw [if_pos c1]
    · rw [if_neg c1]
      by_cases c2 : t < a + (b - a)
      · rw [if_pos c2]; congr 1; omega
      · rw [if_neg c2]
        by_cases c3 : t < b
        · omega
        · rw [if_neg c3]
  · by_cases c1 : t < a
    · rw [if_pos c1]
    · rw [if_neg c1, if_neg (by omega)]
      by_cases c3 : t < m
      · rw [if_pos c3]; congr 1; omega
      · rw [if_neg c3]
theorem mem_seg {l : List α} {a b : Nat} {x : α} (h : x ∈ (l.take b).drop a) : ∃ i, a ≤ i ∧ i < b ∧ l[i]? = some x := by
  obtain ⟨i, hi⟩ := List.mem_iff_getElem?.1 h
  rw [List.getElem?_drop, List.getElem?_take] at hi
  split at hi
  · exact ⟨a + i, by omega, by assumption, hi⟩
  · cases hi
theorem Mv.turn {key : α → Int} {a b a' b' m : Nat} {l : List α} (h1 : a' ≤ m) (h2 : m ≤ b') (h3 : b' ≤ l.length) (ha : a ≤ a') (hb : b' ≤ b) (hlt : ∀ i j x y, a' ≤ i → i < m → m ≤ j → j < b' → l[i]? = some x → l[j]? = some y → key y < key x) : Mv key a b l (turn a' m b' l) := by
  obtain ⟨e, l1, l2, l3⟩ := three h1 h2 h3
  have := Mv.block (key := key) (a := a) (b := b) (l.take a') ((l.take m).drop a') ((l.take b').drop m) (l.drop b') (by omega) (by omega) (fun x hx y hy => by
    obtain ⟨i, i1, i2, i3⟩ := mem_seg hx
    obtain ⟨j, j1, j2, j3⟩ := mem_seg hy
    exact hlt i j x y i1 i2 j1 j2 i3 j3)
  rw [← e] at this
  exact this
theorem get_of {l : List α} {i : Nat} (h : i < l.length) : ∃ x, l[i]? = some x := ⟨_, List.getElem?_eq_getElem h⟩
structure Found (key : α → Int) (a m b s : Nat) (l : List α) : Prop where
  lo : a ≤ s
  hi : s ≤ (a + b) / 2
  sm : s ≤ m
  em : m ≤ (a + b) / 2 + m - s
  eb : (a + b) / 2 + m - s ≤ b
  below : a < s → (a + b) / 2 + m - s < b → ∃ x y, l[s - 1]? = some x ∧ l[(a + b) / 2 + m - s]? = some y ∧ key x ≤ key y
  above : s < m → m < (a + b) / 2 + m - s → ∃ x y, l[s]? = some x ∧ l[(a + b) / 2 + m - s - 1]? = some y ∧ key y < key x
theorem Found.turned {key : α → Int} {a m b s : Nat} {l : List α} (h : Found key a m b s l) (ham : a ≤ m) (hmb : m ≤ b) (hbl : b ≤ l.length) (h1 : Srt key a m l) (h2 : Srt key m b l) :
    Mv key a b l (turn s m ((a + b) / 2 + m - s) l) ∧ Srt key a s (turn s m ((a + b) / 2 + m - s) l) ∧ Srt key s ((a + b) / 2) (turn s m ((a + b) / 2 + m - s) l) ∧
    Srt key ((a + b) / 2) ((a + b) / 2 + m - s) (turn s m ((a + b) / 2 + m - s) l) ∧ Srt key ((a + b) / 2 + m - s) b (turn s m ((a + b) / 2 + m - s) l) ∧
    ∀ i j x y, a ≤ i → i < (a + b) / 2 → (a + b) / 2 ≤ j → j < b → (turn s m ((a + b) / 2 + m - s) l)[i]? = some x → (turn s m ((a + b) / 2 + m - s) l)[j]? = some y → key x ≤ key y := by
  obtain ⟨q1, q2, q3, q4, q5, k6, k7⟩ := h
  have q6 := Lib.hid k6
  have q7 := Lib.hid k7
  clear k6 k7
  generalize hmid : (a + b) / 2 = mid at *
  generalize hend : mid + m - s = en at *
  have hmv : Mv key a b l (turn s m en l) := by
    refine Mv.turn q3 q4 (by omega) q1 q5 (fun i j x y i1 i2 j1 j2 hx hy => ?_)
    obtain ⟨u, v, hu, hv, hlt⟩ := q7.out (by omega) (by omega)
    have k1 := h1.le (i := s) (j := i) q1 i1 i2 hu hx
    have k2 := h2.le (i := j) (j := en - 1) j1 (by omega) (by omega) hy hv
    omega
  refine ⟨hmv, ?_⟩
  have hg : ∀ t : Nat, (turn s m en l)[t]? = if t < s then l[t]? else if t < mid then l[t + (m - s)]? else if t < en then l[t - (mid - s)]? else l[t]? := fun t => by
    rw [turn_get q3 q4 (Nat.le_trans q5 hbl), show en - m = mid - s by omega, show s + (mid - s) = mid by omega]
  generalize turn s m en l = r at *
  have g1 : ∀ t : Nat, t < s → r[t]? = l[t]? := fun t ht => by rw [hg, if_pos ht]
  have g2 : ∀ t : Nat, s ≤ t → t < mid → r[t]? = l[t + (m - s)]? := fun t h1 h2 => by rw [hg, if_neg (by omega), if_pos h2]
  have g3 : ∀ t : Nat, mid ≤ t → t < en → r[t]? = l[t - (mid - s)]? := fun t h1 h2 => by rw [hg, if_neg (by omega), if_neg (by omega), if_pos h2]
  have g4 : ∀ t : Nat, mid ≤ t → en ≤ t → r[t]? = l[t]? := fun t h1 h2 => by rw [hg, if_neg (by omega), if_neg (by omega), if_neg (by omega)]
  clear hg hmv
  refine ⟨(h1.sub (Nat.le_refl _) q3).same (fun t _ h => g1 t h), fun i j x y i1 ij jb hx hy => ?_, fun i j x y i1 ij jb hx hy => ?_, (h2.sub q4 (Nat.le_refl _)).same (fun t h _ => g4 t (by omega) h), fun i j x y i1 i2 j1 j2 hx hy => ?_⟩
  · rw [g2 i i1 (by omega)] at hx
    rw [g2 j (by omega) jb] at hy
    exact h2.le (by omega) (by omega) (by omega) hx hy
  · rw [g3 i i1 (by omega)] at hx
    rw [g3 j (by omega) jb] at hy
    exact h1.le (by omega) (by omega) (by omega) hx hy
  · by_cases hi : i < s
    · rw [g1 i hi] at hx
      by_cases hj : j < en
      · rw [g3 j j1 hj] at hy
        exact h1.le (i := i) (j := j - (mid - s)) (by omega) (by omega) (by omega) hx hy
      · rw [g4 j j1 (by omega)] at hy
        obtain ⟨u, v, hu, hv, hle⟩ := q6.out (by omega) (by omega)
        have k1 := h1.le (i := i) (j := s - 1) (by omega) (by omega) (by omega) hx hu
        have k2 := h2.le (i := en) (j := j) (by omega) (by omega) j2 hv hy
        omega
    · rw [g2 i (by omega) i2] at hx
      by_cases hj : j < en
      · rw [g3 j j1 hj] at hy
        obtain ⟨u, v, hu, hv, hlt⟩ := q7.out (by omega) (by omega)
        have k1 := h2.le (i := i + (m - s)) (j := en - 1) (by omega) (by omega) (by omega) hx hv
        have k2 := h1.le (i := s) (j := j - (mid - s)) (by omega) (by omega) (by omega) hu hy
        omega
      · rw [g4 j j1 (by omega)] at hy
        exact h2.le (i := i + (m - s)) (j := j) (by omega) (by omega) j2 hx hy
structure Sea (key : α → Int) (p s0 r0 lo hi : Nat) (l : List α) : Prop where
  h1 : s0 ≤ lo
  h2 : lo ≤ hi
  h3 : hi ≤ r0
  below : s0 < lo → ∃ x y, l[lo - 1]? = some x ∧ l[p - (lo - 1)]? = some y ∧ key x ≤ key y
  above : hi < r0 → ∃ x y, l[hi]? = some x ∧ l[p - hi]? = some y ∧ key y < key x
theorem Sea.start (key : α → Int) {p s0 r0 : Nat} (l : List α) (h : s0 ≤ r0) : Sea key p s0 r0 s0 r0 l := ⟨Nat.le_refl _, h, Nat.le_refl _, fun h => by omega, fun h => by omega⟩
theorem Sea.up {key : α → Int} {p s0 r0 lo hi c : Nat} {l : List α} {x y : α} (h : Sea key p s0 r0 lo hi l) (h1 : lo ≤ c) (h2 : c < hi) (hx : l[c]? = some x) (hy : l[p - c]? = some y) (hn : ¬ key y < key x) : Sea key p s0 r0 (c + 1) hi l :=
  ⟨by have := h.h1; omega, by omega, h.h3, fun _ => ⟨x, y, hx, hy, by omega⟩, h.above⟩
theorem Sea.down {key : α → Int} {p s0 r0 lo hi c : Nat} {l : List α} {x y : α} (h : Sea key p s0 r0 lo hi l) (h1 : lo ≤ c) (h2 : c < hi) (hx : l[c]? = some x) (hy : l[p - c]? = some y) (hn : key y < key x) : Sea key p s0 r0 lo c l :=
  ⟨h.h1, h1, by have := h.h3; omega, h.below, fun _ => ⟨x, y, hx, hy, hn⟩⟩
def seaLo (a m b : Nat) : Nat := if (a + b) / 2 < m then (a + b) / 2 + m - b else a
def seaHi (a m b : Nat) : Nat := if (a + b) / 2 < m then (a + b) / 2 else m
theorem sea_range {a m b : Nat} (h1 : a < m) (h2 : m < b) : a ≤ seaLo a m b ∧ seaLo a m b ≤ seaHi a m b ∧ seaHi a m b ≤ (a + b) / 2 ∧ seaHi a m b ≤ m ∧ ∀ c, seaLo a m b ≤ c → c < seaHi a m b → c < m ∧ m ≤ (a + b) / 2 + m - 1 - c ∧ (a + b) / 2 + m - 1 - c < b ∧ c ≤ (a + b) / 2 + m - 1 := by
  unfold seaLo seaHi
  split
  · refine ⟨by omega, by omega, by omega, by omega, fun c h1 h2 => by omega⟩
  · refine ⟨by omega, by omega, by omega, by omega, fun c h1 h2 => by omega⟩
theorem Sea.found {key : α → Int} {a m b s : Nat} {l : List α} (h1 : a < m) (h2 : m < b) (h : Sea key ((a + b) / 2 + m - 1) (seaLo a m b) (seaHi a m b) s s l) : Found key a m b s l := by
  obtain ⟨r1, r2, r3, r4, r5⟩ := sea_range h1 h2
  obtain ⟨q1, q2, q3, q4, q5⟩ := h
  refine ⟨by omega, by omega, by omega, by omega, ?_, fun k1 k2 => ?_, fun k1 k2 => ?_⟩
  · have : (a + b) / 2 + m - b ≤ seaLo a m b := by unfold seaLo; split <;> omega
    omega
  · have : seaLo a m b < s := by
      unfold seaLo at q1 ⊢
      split at q1
      · rw [if_pos (by assumption)]; omega
      · rw [if_neg (by assumption)]; omega
    obtain ⟨x, y, hx, hy, hle⟩ := q4 this
    exact ⟨x, y, hx, by rw [show (a + b) / 2 + m - s = (a + b) / 2 + m - 1 - (s - 1) by omega]; exact hy, hle⟩
  · have : s < seaHi a m b := by
      unfold seaHi at q3 ⊢
      split at q3
      · rw [if_pos (by assumption)]; omega
      · rw [if_neg (by assumption)]; omega
    obtain ⟨x, y, hx, hy, hlt⟩ := q5 this
    exact ⟨x, y, hx, by rw [show (a + b) / 2 + m - s - 1 = (a + b) / 2 + m - 1 - s by omega]; exact hy, hlt⟩
theorem first_done {key : α → Int} {a b i : Nat} {l : List α} {x : α} (hx : l[a]? = some x) (hi1 : a + 1 ≤ i) (hi2 : i ≤ b) (hb : b ≤ l.length) (h : Srt key (a + 1) b l)
    (hlo : a + 1 < i → ∃ y, l[i - 1]? = some y ∧ key y < key x) (hhi : i < b → ∃ y, l[i]? = some y ∧ ¬ key y < key x) : Mv key a b l (turn a (a + 1) i l) ∧ Srt key a b (turn a (a + 1) i l) := by
  have hg := turn_get (l := l) (a := a) (m := a + 1) (b := i) (by omega) hi1 (by omega)
  refine ⟨Mv.turn (by omega) hi1 (by omega) (Nat.le_refl _) hi2 (fun p q u v p1 p2 q1 q2 hu hv => ?_), fun p q u v p1 pq q2 hu hv => ?_⟩
  · obtain rfl : p = a := by omega
    rw [hx] at hu
    injection hu with hu
    subst hu
    obtain ⟨y, hy, hlt⟩ := hlo (by omega)
    have := h.le (i := q) (j := i - 1) q1 (by omega) (by omega) hv hy
    omega
  · rw [hg] at hu hv
    rw [if_neg (by omega)] at hu hv
    by_cases hp : p < a + (i - (a + 1))
    · rw [if_pos hp] at hu
      by_cases hq : q < a + (i - (a + 1))
      · rw [if_pos hq] at hv
        exact h.le (by omega) (by omega) (by omega) hu hv
      · rw [if_neg hq] at hv
        by_cases hq2 : q < i
        · rw [if_pos hq2, show q - (i - (a + 1)) = a by omega, hx] at hv
          injection hv with hv
          subst hv
          obtain ⟨y, hy, hlt⟩ := hlo (by omega)
          have := h.le (i := p + (a + 1 - a)) (j := i - 1) (by omega) (by omega) (by omega) hu hy
          omega
        · rw [if_neg hq2] at hv
          exact h.le (i := p + (a + 1 - a)) (j := q) (by omega) (by omega) (by omega) hu hv
    · rw [if_neg hp] at hu
      rw [if_neg (by omega), if_neg (by omega)] at hv
      obtain ⟨y, hy, hn⟩ := hhi (by omega)
      have h2 := h.le (i := i) (j := q) (by omega) (by omega) q2 hy hv
      by_cases hp2 : p < i
      · rw [if_pos hp2, show p - (i - (a + 1)) = a by omega, hx] at hu
        injection hu with hu
        subst hu
        omega
      · rw [if_neg hp2] at hu
        exact h.le (i := p) (j := q) (by omega) (by omega) q2 hu hv
theorem first_step {a k : Nat} {l : List α} {u v : α} (ha : a ≤ k) (hk : k + 1 < l.length) (hu : (turn a (a + 1) (k + 1) l)[k]? = some u) (hv : (turn a (a + 1) (k + 1) l)[k + 1]? = some v) : ((turn a (a + 1) (k + 1) l).set k v).set (k + 1) u = turn a (a + 1) (k + 2) l := by
  have hg := turn_get (l := l) (a := a) (m := a + 1) (b := k + 1) (by omega) (by omega) (by omega)
  have hg2 := turn_get (l := l) (a := a) (m := a + 1) (b := k + 2) (by omega) (by omega) (by omega)
  have hlen : (turn a (a + 1) (k + 1) l).length = l.length := by unfold turn; simp; omega
  refine List.ext_getElem? fun t => ?_
  rw [set2_get (by omega), hg2]
  rw [hg] at hu hv
  by_cases h1 : t = k
  · subst h1
    rw [if_pos rfl, if_neg (by omega), if_pos (by omega), ← hv, if_neg (by omega), if_neg (by omega), if_neg (by omega)]
    congr 1
    omega
  · rw [if_neg h1]
    by_cases h2 : t = k + 1
    · subst h2
      rw [if_pos rfl, ← hu, if_neg (by omega), if_neg (by omega), if_pos (by omega), if_neg (by omega), if_neg (by omega), if_pos (by omega)]
      congr 1
      omega
    · rw [if_neg h2, hg]
      by_cases h3 : t < a
      · rw [if_pos h3, if_pos h3]
      · rw [if_neg h3, if_neg h3]
        by_cases h4 : t < k
        · rw [if_pos (by omega), if_pos (by omega)]
        · rw [if_neg (by omega), if_neg (by omega), if_neg (by omega), if_neg (by omega)]
theorem last_done {key : α → Int} {a m i : Nat} {l : List α} {x : α} (hx : l[m]? = some x) (hi1 : a ≤ i) (hi2 : i ≤ m) (hm : m + 1 ≤ l.length) (h : Srt key a m l)
    (hlo : a < i → ∃ y, l[i - 1]? = some y ∧ ¬ key x < key y) (hhi : i < m → ∃ y, l[i]? = some y ∧ key x < key y) : Mv key a (m + 1) l (turn i m (m + 1) l) ∧ Srt key a (m + 1) (turn i m (m + 1) l) := by
  have hg := turn_get (l := l) (a := i) (m := m) (b := m + 1) hi2 (by omega) hm
  refine ⟨Mv.turn hi2 (by omega) hm hi1 (Nat.le_refl _) (fun p q u v p1 p2 q1 q2 hu hv => ?_), fun p q u v p1 pq q2 hu hv => ?_⟩
  · obtain rfl : q = m := by omega
    rw [hx] at hv
    injection hv with hv
    subst hv
    obtain ⟨y, hy, hlt⟩ := hhi (by omega)
    have := h.le (i := i) (j := p) hi1 p1 p2 hy hu
    omega
  · rw [hg] at hu hv
    rw [show m + 1 - m = 1 by omega] at hu hv
    by_cases hp : p < i
    · rw [if_pos hp] at hu
      by_cases hq : q < i
      · rw [if_pos hq] at hv
        exact h.le p1 (by omega) (by omega) hu hv
      · rw [if_neg hq] at hv
        by_cases hq2 : q < i + 1
        · rw [if_pos hq2, show q + (m - i) = m by omega, hx] at hv
          injection hv with hv
          subst hv
          obtain ⟨y, hy, hn⟩ := hlo (by omega)
          have := h.le (i := p) (j := i - 1) p1 (by omega) (by omega) hu hy
          omega
        · rw [if_neg hq2, if_pos q2] at hv
          exact h.le (i := p) (j := q - 1) p1 (by omega) (by omega) hu hv
    · rw [if_neg hp] at hu
      rw [if_neg (by omega), if_neg (by omega), if_pos q2] at hv
      by_cases hp2 : p < i + 1
      · rw [if_pos hp2, show p + (m - i) = m by omega, hx] at hu
        injection hu with hu
        subst hu
        obtain ⟨y, hy, hlt⟩ := hhi (by omega)
        have := h.le (i := i) (j := q - 1) hi1 (by omega) (by omega) hy hv
        omega
      · rw [if_neg hp2, if_pos (by omega)] at hu
        exact h.le (i := p - 1) (j := q - 1) (by omega) (by omega) (by omega) hu hv
theorem last_step {k m : Nat} {l : List α} {u v : α} (hk : k + 1 ≤ m) (hm : m + 1 ≤ l.length) (hu : (turn (k + 1) m (m + 1) l)[k]? = some u) (hv : (turn (k + 1) m (m + 1) l)[k + 1]? = some v) : ((turn (k + 1) m (m + 1) l).set k v).set (k + 1) u = turn k m (m + 1) l := by
  have hg := turn_get (l := l) (a := k + 1) (m := m) (b := m + 1) (by omega) (by omega) (by omega)
  have hg2 := turn_get (l := l) (a := k) (m := m) (b := m + 1) (by omega) (by omega) (by omega)
  have hlen : (turn (k + 1) m (m + 1) l).length = l.length := by unfold turn; simp; omega
  refine List.ext_getElem? fun t => ?_
  rw [set2_get (by omega), hg2]
  rw [hg] at hu hv
  rw [hg, ← hu, ← hv]
  repeat' split
  all_goals first | rfl | (exfalso; omega) | (congr 1; omega)
structure Exd (x y n : Nat) (l l' : List α) : Prop where
  len : l'.length = l.length
  get : ∀ t, l'[t]? = if x ≤ t ∧ t < x + n then l[t + (y - x)]? else if y ≤ t ∧ t < y + n then l[t - (y - x)]? else l[t]?
theorem Exd.zero (x y : Nat) (l : List α) : Exd x y 0 l l := ⟨rfl, fun t => by rw [if_neg (by omega), if_neg (by omega)]⟩
theorem Exd.step {x y n : Nat} {l l' : List α} {u v : α} (h : Exd x y n l l') (hd : x + n < y) (hl : y + n < l.length) (hu : l'[x + n]? = some u) (hv : l'[y + n]? = some v) : Exd x y (n + 1) l ((l'.set (x + n) v).set (y + n) u) := by
  refine ⟨by simp [h.len], fun t => ?_⟩
  have hlen := h.len
  rw [List.getElem?_set, List.getElem?_set, List.length_set]
  rw [h.get, if_neg (by omega), if_neg (by omega)] at hu
  rw [h.get, if_neg (by omega), if_neg (by omega)] at hv
  rw [h.get, ← hu, ← hv, hlen]
  repeat' split
  all_goals first | rfl | (exfalso; omega) | (congr 1; omega)
theorem Exd.all {m i : Nat} {l l' : List α} (h : Exd (m - i) m i l l') (hi : i ≤ m) (hl : m + i ≤ l.length) : l' = turn (m - i) m (m + i) l := by
  refine List.ext_getElem? fun t => ?_
  rw [h.get, turn_get (by omega) (by omega) hl]
  repeat' split
  all_goals first | rfl | (exfalso; omega) | (congr 1; omega)
theorem Exd.left {m i j : Nat} {l l' : List α} (h : Exd (m - i) m j l l') (hi : i ≤ m) (hj : j < i) (hl : m + j ≤ l.length) : turn (m - (i - j)) m (m + j) l' = turn (m - i) m (m + j) l := by
  refine List.ext_getElem? fun t => ?_
  have hlen := h.len
  rw [turn_get (by omega) (by omega) (by omega), turn_get (by omega) (by omega) hl, h.get, h.get, h.get]
  repeat' split
  all_goals first | rfl | (exfalso; omega) | (congr 1; omega)
theorem Exd.right {m i j : Nat} {l l' : List α} (h : Exd (m - i) (m + j - i) i l l') (hi : i ≤ m) (hj : i < j) (hl : m + j ≤ l.length) : turn (m - i) m (m + (j - i)) l' = turn (m - i) m (m + j) l := by
  refine List.ext_getElem? fun t => ?_
  have hlen := h.len
  rw [turn_get (by omega) (by omega) (by omega), turn_get (by omega) (by omega) hl, h.get, h.get, h.get]
  repeat' split
  all_goals first | rfl | (exfalso; omega) | (congr 1; omega)
theorem turn_length {a m b : Nat} {l : List α} (h1 : a ≤ m) (h2 : m ≤ b) (h3 : b ≤ l.length) : (turn a m b l).length = l.length := by
  unfold turn
  simp
  omega
theorem merged {key : α → Int} {a mid b : Nat} {l r1 r2 : List α} (ham : a ≤ mid) (hmb : mid ≤ b) (hc : ∀ i j x y, a ≤ i → i < mid → mid ≤ j → j < b → l[i]? = some x → l[j]? = some y → key x ≤ key y)
    (h1 : Mv key a mid l r1) (s1 : Srt key a mid r1) (h2 : Mv key mid b r1 r2) (s2 : Srt key mid b r2) : Mv key a b l r2 ∧ Srt key a b r2 := by
  refine ⟨(h1.wide (Nat.le_refl _) hmb).trans (h2.wide ham (Nat.le_refl _)), Srt.join (s1.same (fun t _ ht => h2.out t (.inl ht))) s2 (fun i j x y i1 i2 j1 j2 hx hy => ?_)⟩
  rw [h2.out i (.inl i2)] at hx
  obtain ⟨p, p1, p2, p3⟩ := h1.sub i x i1 i2 hx
  obtain ⟨q, q1, q2, q3⟩ := h2.sub j y j1 j2 hy
  rw [h1.out q (.inr q1)] at q3
  exact hc p q x y p1 p2 q1 q2 p3 q3
theorem mult_gap {bs p a : Nat} (h1 : bs ∣ p) (h2 : bs ∣ a) (h : p < a) : p + bs ≤ a := by
  obtain ⟨x, rfl⟩ := h1
  obtain ⟨y, rfl⟩ := h2
  have hxy : x < y := Nat.lt_of_mul_lt_mul_left h
  have := Nat.mul_le_mul_left bs hxy
  rw [Nat.mul_succ] at this
  exact this
def Ahd (key : α → Int) (bs a : Nat) (l : List α) : Prop := bs ∣ a ∧ ∀ p, bs ∣ p → p < a → Srt key p (p + bs) l
def Tl (key : α → Int) (bs a n : Nat) (l : List α) : Prop := ∀ p, bs ∣ p → a ≤ p → Srt key p (min (p + bs) n) l
theorem Ahd.zero (key : α → Int) (bs : Nat) (l : List α) : Ahd key bs 0 l := ⟨Nat.dvd_zero _, fun p _ h => by omega⟩
theorem Ahd.step {key : α → Int} {bs a : Nat} {l l' : List α} (h : Ahd key bs a l) (hm : Mv key a (a + bs) l l') (hs : Srt key a (a + bs) l') (hb : 0 < bs) : Ahd key bs (a + bs) l' := by
  refine ⟨Nat.dvd_add h.1 (Nat.dvd_refl _), fun p hp hlt => ?_⟩
  by_cases hpa : p < a
  · have := mult_gap hp h.1 hpa
    exact (h.2 p hp hpa).same (fun t _ ht => hm.out t (.inl (by omega)))
  · by_cases e : p = a
    · rw [e]; exact hs
    · have := mult_gap h.1 hp (by omega)
      omega
theorem Ahd.done {key : α → Int} {bs a n : Nat} {l l' : List α} (h : Ahd key bs a l) (hm : Mv key a n l l') (hs : Srt key a n l') (hn : n < a + bs) (han : a ≤ n) : Tl key bs 0 n l' := fun p hp _ => by
  by_cases hpa : p < a
  · have := mult_gap hp h.1 hpa
    rw [Nat.min_eq_left (by omega)]
    exact (h.2 p hp hpa).same (fun t _ ht => hm.out t (.inl (by omega)))
  · by_cases e : p = a
    · rw [e, Nat.min_eq_right (by omega)]; exact hs
    · have := mult_gap h.1 hp (by omega)
      exact Srt.short key l' (by omega)
theorem Tl.on {key : α → Int} {bs a a' n e : Nat} {l l' : List α} (h : Tl key bs a n l) (ha : a ≤ a') (he : e ≤ a') {b : Nat} (hm : Mv key b e l l') : Tl key bs a' n l' := fun p hp hap => (h p hp (by omega)).same (fun t h1 _ => hm.out t (.inr (by omega)))
theorem Tl.pair {key : α → Int} {bs a n : Nat} {l : List α} (h : Tl key bs a n l) (ha : bs ∣ a) (hn : a + 2 * bs ≤ n) : Srt key a (a + bs) l ∧ Srt key (a + bs) (a + 2 * bs) l := by
  have h1 := h a ha (Nat.le_refl _)
  have h2 := h (a + bs) (Nat.dvd_add ha (Nat.dvd_refl _)) (by omega)
  rw [Nat.min_eq_left (by omega)] at h1
  rw [Nat.min_eq_left (by omega), show a + bs + bs = a + 2 * bs by omega] at h2
  exact ⟨h1, h2⟩
theorem Tl.last {key : α → Int} {bs a n : Nat} {l : List α} (h : Tl key bs a n l) (ha : bs ∣ a) (hn : n < a + 2 * bs) (hm : a + bs < n) : Srt key a (a + bs) l ∧ Srt key (a + bs) n l := by
  have h1 := h a ha (Nat.le_refl _)
  have h2 := h (a + bs) (Nat.dvd_add ha (Nat.dvd_refl _)) (by omega)
  rw [Nat.min_eq_left (by omega)] at h1
  rw [Nat.min_eq_right (by omega)] at h2
  exact ⟨h1, h2⟩
theorem Tl.single {key : α → Int} {bs a n : Nat} {l : List α} (h : Tl key bs a n l) (ha : bs ∣ a) (hm : n ≤ a + bs) : Srt key a n l := by
  have h1 := h a ha (Nat.le_refl _)
  rw [Nat.min_eq_right (by omega)] at h1
  exact h1
theorem Tl.full {key : α → Int} {bs n : Nat} {l : List α} (h : Tl key bs 0 n l) (hm : n ≤ bs) : Srt key 0 n l := h.single (Nat.dvd_zero _) (by omega)
theorem dvd_two {bs a : Nat} (h : 2 * bs ∣ a) : bs ∣ a := Nat.dvd_trans (Nat.dvd_mul_left bs 2) h
end Go.Proofs.YtikpkjpnehkbfaaGreatDoor.Sb
namespace Go.Proofs.YtikpkjpnehkbfaaGreatDoor.Nm
open Go.Proofs.YtikpkjpnehkbfaaGreatDoor.Sp Go.Proofs.YtikpkjpnehkbfaaGreatDoor.Sb
section
variable {α : Type}
structure OI (c : α → Int) (l0 l : List α) (i fr : Nat) : Prop where
  len : l.length = l0.length
  same : ∀ k, l.filter (P0 c k) = l0.filter (P0 c k)
  le : fr ≤ i
  top : i ≤ l0.length + 1
  rest : ∀ t, fr ≤ t → l[t]? = l0[t]?
  pos : ∀ t x, fr ≤ t → t < i → l0[t]? = some x → c x ≠ 0
  ord : ∀ j x y, j + 1 < fr → l[j]? = some x → l[j + 1]? = some y → 0 < c y → c x ≤ c y
  zero : fr = 0 ∨ (∃ x, l[fr - 1]? = some x ∧ c x = 0) ∨ fr = l0.length + 1
theorem OI.start (c : α → Int) (l : List α) : OI c l l 0 0 := ⟨rfl, fun _ => rfl, Nat.le_refl _, Nat.zero_le _, fun _ _ => rfl, fun t x _ h => by omega, fun j x y h => by omega, .inl rfl⟩
theorem OI.skip {c : α → Int} {l0 l : List α} {i fr : Nat} {x : α} (h : OI c l0 l i fr) (hx : l[i]? = some x) (hc : c x ≠ 0) : OI c l0 l (i + 1) fr := by
  have hi := (List.getElem?_eq_some_iff.1 hx).1
  refine ⟨h.len, h.same, by have := h.le; omega, by have := h.len; omega, h.rest, fun t y h1 h2 hy => ?_, h.ord, h.zero⟩
  by_cases e : t = i
  · subst e
    rw [← h.rest t h.le, hx] at hy
    injection hy with hy
    rw [← hy]; exact hc
  · exact h.pos t y h1 (by omega) hy
def seg (l : List α) (a b : Nat) : List α := (l.take b).drop a
theorem seg_split {l : List α} {a b : Nat} (h1 : a ≤ b) (h2 : b ≤ l.length) : l = l.take a ++ (seg l a b ++ l.drop b) ∧ (l.take a).length = a ∧ (seg l a b).length = b - a := by
  obtain ⟨e, l1, l2, _⟩ := three (a := a) (m := b) (b := b) (l := l) h1 (Nat.le_refl _) h2
  refine ⟨?_, l1, l2⟩
  have : (l.take b).drop b = [] := List.drop_eq_nil_of_le (by rw [List.length_take]; omega)
  rw [this, List.nil_append] at e
  exact e
theorem OI.sorted {c : α → Int} (hc : ∀ x, 0 ≤ c x) {l0 l s' : List α} {i fr : Nat} (h : OI c l0 l i fr) (hi : i ≤ l0.length) (hz : i = l0.length ∨ ∃ x, l[i]? = some x ∧ c x = 0)
    (hm : Mv c 0 (i - fr) (seg l fr i) s') (hs : Srt c 0 (i - fr) s') : OI c l0 (l.take fr ++ (s' ++ l.drop i)) (i + 1) (i + 1) := by
  have hle := h.le
  have hlen := h.len
  obtain ⟨e, l1, l2⟩ := seg_split (l := l) hle (by omega)
  have l3 : s'.length = i - fr := by rw [hm.len, l2]
  have lo : ∀ t, t < fr → (l.take fr ++ (s' ++ l.drop i))[t]? = l[t]? := fun t ht => by
    rw [List.getElem?_append_left (by omega), List.getElem?_take, if_pos ht]
  have mi : ∀ t, fr ≤ t → t < i → (l.take fr ++ (s' ++ l.drop i))[t]? = s'[t - fr]? := fun t h1 h2 => by
    rw [List.getElem?_append_right (by omega), l1, List.getElem?_append_left (by omega)]
  have hi2 : ∀ t, i ≤ t → (l.take fr ++ (s' ++ l.drop i))[t]? = l[t]? := fun t h1 => by
    rw [List.getElem?_append_right (by omega), l1, List.getElem?_append_right (by omega), l3, List.getElem?_drop]
    congr 1
    omega
  refine ⟨by simp only [List.length_append, l1, l3, List.length_drop]; omega, fun k => ?_, Nat.le_refl _, by omega, fun t ht => ?_, fun t x h1 h2 => by omega, fun j x y hj hx hy h0 => ?_, ?_⟩
  · rw [← h.same k]
    conv => rhs; rw [e]
    simp only [List.filter_append]
    congr 2
    refine hm.keep (P0 c k) (fun p q x y _ _ _ _ hx hy px py => ?_)
    have nz : ∀ p x, (seg l fr i)[p]? = some x → c x ≠ 0 := fun p x hx => by
      have hp := (List.getElem?_eq_some_iff.1 hx).1
      have hx' : l[fr + p]? = some x := by
        rw [e, List.getElem?_append_right (by omega), l1, show fr + p - fr = p by omega, List.getElem?_append_left hp]
        exact hx
      rw [h.rest _ (by omega)] at hx'
      exact h.pos _ x (by omega) (by omega) hx'
    have n1 := nz p x hx
    have n2 := nz q y hy
    rw [P0_iff] at px py
    omega
  · rw [hi2 t (by omega)]
    exact h.rest t (by omega)
  · by_cases c1 : j + 1 < fr
    · rw [lo j (by omega)] at hx
      rw [lo (j + 1) c1] at hy
      exact h.ord j x y c1 hx hy h0
    · by_cases c2 : j + 1 = fr
      · rw [lo j (by omega)] at hx
        rcases h.zero with e0 | ⟨z, hz1, hz2⟩ | e1
        · omega
        · rw [show fr - 1 = j by omega, hx] at hz1
          injection hz1 with hz1
          rw [hz1, hz2]; omega
        · omega
      · by_cases c3 : j + 1 < i
        · rw [mi j (by omega) (by omega)] at hx
          rw [mi (j + 1) (by omega) c3] at hy
          exact hs (j - fr) (j + 1 - fr) x y (Nat.zero_le _) (by omega) (by omega) hx hy
        · have hji : j + 1 = i := by omega
          rw [hi2 (j + 1) (by omega), hji] at hy
          rcases hz with hz | ⟨z, hz1, hz2⟩
          · rw [List.getElem?_eq_none (by omega)] at hy; cases hy
          · rw [hy] at hz1
            injection hz1 with hz1
            rw [hz1, hz2] at h0
            omega
  · rcases hz with hz | ⟨z, hz1, hz2⟩
    · exact .inr (.inr (by omega))
    · refine .inr (.inl ⟨z, ?_, hz2⟩)
      rw [show i + 1 - 1 = i by omega, hi2 i (Nat.le_refl _)]
      exact hz1
theorem OI.done {c : α → Int} (hc : ∀ x, 0 ≤ c x) {l0 l : List α} {i : Nat} (h : OI c l0 l i (l0.length + 1)) : l = ordR c l0 := by
  refine ordR_uniq hc (fun j x y hx hy h0 => ?_) h.same
  have := (List.getElem?_eq_some_iff.1 hy).1
  have := h.len
  exact h.ord j x y (by omega) hx hy h0
structure BI (c : α → Int) (o0 : List α) (x : α) (n : Nat) (o : List α) : Prop where
  ex : ∃ A B, o = A ++ (x :: B) ∧ A ++ B = o0 ∧ A.length = n ∧ ∀ b ∈ B, 0 < c x ∧ c x < c b
theorem BI.start (c : α → Int) (o0 : List α) (x : α) : BI c o0 x o0.length (o0 ++ [x]) := ⟨o0, [], rfl, by simp, rfl, fun b h => by cases h⟩
theorem BI.get {c : α → Int} {o0 o : List α} {x : α} {n : Nat} (h : BI c o0 x n o) : o[n]? = some x ∧ n ≤ o0.length ∧ o.length = o0.length + 1 := by
  obtain ⟨A, B, rfl, e, rfl, _⟩ := h.ex
  have := congrArg List.length e
  rw [List.length_append] at this
  exact ⟨by simp, by omega, by simp; omega⟩
theorem BI.step {c : α → Int} {o0 o : List α} {x y : α} {n : Nat} (h : BI c o0 x (n + 1) o) (hy : o[n]? = some y) (h0 : 0 < c x) (hlt : c x < c y) : BI c o0 x n ((o.set (n + 1) y).set n x) := by
  obtain ⟨A, B, rfl, e, hA, hB⟩ := h.ex
  have hAne : A ≠ [] := by intro e; rw [e] at hA; cases hA
  obtain ⟨A', z, rfl⟩ : ∃ A' z, A = A' ++ [z] := ⟨A.dropLast, A.getLast hAne, (List.dropLast_concat_getLast hAne).symm⟩
  have hA' : A'.length = n := by simp at hA; exact hA
  have hz : z = y := by
    rw [List.append_assoc, List.getElem?_append_right (by omega), hA', Nat.sub_self] at hy
    simpa using hy
  subst hz
  refine ⟨A', z :: B, ?_, by rw [← e]; simp, hA', fun b hb => ?_⟩
  · rw [List.append_assoc, List.singleton_append]
    rw [List.set_append_right _ _ (by omega), hA', show n + 1 - n = 1 by omega, List.set_append_right _ _ (by omega), hA', Nat.sub_self]
    rfl
  · rcases List.mem_cons.1 hb with rfl | hb
    · exact ⟨h0, hlt⟩
    · exact hB b hb
theorem BI.done {c : α → Int} (hc : ∀ x, 0 ≤ c x) {l o : List α} {x : α} {n : Nat} (h : BI c (ordR c l) x n o) (hs : n = 0 ∨ ¬ 0 < c x ∨ ∃ y, o[n - 1]? = some y ∧ ¬ c x < c y) : o = ordR c (l ++ [x]) := by
  obtain ⟨A, B, rfl, e, rfl, hB⟩ := h.ex
  have hO := ordR_ord c l
  rw [← e] at hO
  have hlast : ∀ u v, A.getLast? = some u → (x :: B).head? = some v → 0 < c v → c u ≤ c v := fun u v hu hv h0 => by
    simp only [List.head?_cons, Option.some.injEq] at hv
    subst hv
    rcases hs with hs | hs | ⟨y, hy, hn⟩
    · have : A = [] := List.length_eq_zero_iff.1 hs
      rw [this] at hu; cases hu
    · exact absurd h0 hs
    · have hAl : 0 < A.length := by
        cases A with
        | nil => cases hu
        | cons a A => simp
      rw [List.getElem?_append_left (by omega), ← List.getLast?_eq_getElem?, hu] at hy
      injection hy with hy
      subst hy
      omega
  have hxB : Ord c (x :: B) := by
    rw [show x :: B = [x] ++ B from rfl]
    refine (Ord.one c x).append hO.right (fun u v hu hv h0 => ?_)
    simp only [List.getLast?_singleton, Option.some.injEq] at hu
    subst hu
    have hv' : v ∈ B := by
      cases B with
      | nil => cases hv
      | cons b B => simp only [List.head?_cons, Option.some.injEq] at hv; subst hv; simp
    have := (hB v hv').2
    omega
  refine ordR_uniq hc (hO.left.append hxB hlast) (fun k => ?_)
  rw [List.filter_append l, ← ordR_filter c k l, ← e, List.filter_append, List.filter_append, List.append_assoc]
  congr 1
  rw [show x :: B = [x] ++ B from rfl, List.filter_append]
  by_cases hx : P0 c k x = true
  · by_cases hB0 : B = []
    · rw [hB0]; simp
    · have : B.filter (P0 c k) = [] := List.filter_eq_nil_iff.2 (fun b hb hp => by
        have := hB b hb
        rw [P0_iff] at hx hp
        omega)
      rw [this]; simp
  · have : [x].filter (P0 c k) = [] := by simp [List.filter_cons, hx]
    rw [this]; simp
end
def lastV (D : PD) (o : List Int × Option Nat) : Int := match o.2 with | none => 0 | some s => if s + 1 = o.1.length then -1 else classOf D (o.1.getD (o.1.length - 1) 0)
def startV (o : List Int × Option Nat) : Int := match o.2 with | none => -1 | some s => (s : Int)
def StIn (o : List Int × Option Nat) : Prop := ∀ s, o.2 = some s → s < o.1.length
theorem StIn.step {D : PD} {o : List Int × Option Nat} (h : StIn o) (c : Int) : StIn (compStep D o c) := by
  have hpush : StIn (push D o c) := by
    intro s hs
    unfold push at hs ⊢
    simp only at hs
    split at hs
    · injection hs with hs; simp; omega
    · have := h s hs; simp; omega
  unfold compStep
  split
  · exact hpush
  · rename_i s hs
    split
    · split
      · intro s' hs'
        simp only [Option.some.injEq] at hs'
        subst hs'
        simp only [List.length_set]
        exact h _ hs
      · exact hpush
    · exact hpush
theorem free_iff {D : PD} (h : Good D) {o : List Int × Option Nat} {s : Nat} (hs : o.2 = some s) (c : Int) : lastV D o < classOf D c ↔ free D o.1 s c := by
  have := h.nn c
  unfold lastV free
  rw [hs]
  simp only
  split
  · rename_i e
    exact ⟨fun _ => .inl e, fun _ => by omega⟩
  · rename_i e
    exact ⟨.inr, fun h => h.resolve_left e⟩
theorem push_last {D : PD} {o : List Int × Option Nat} (h : StIn o) (c : Int) : (classOf D c = 0 → startV (push D o c) = (o.1.length : Int) ∧ lastV D (push D o c) = -1) ∧ (classOf D c ≠ 0 → startV (push D o c) = startV o ∧ ∀ s, o.2 = some s → lastV D (push D o c) = classOf D c) := by
  refine ⟨fun h0 => ?_, fun h0 => ?_⟩
  · unfold push startV lastV
    rw [if_pos h0]
    simp
  · unfold push
    rw [if_neg h0]
    refine ⟨rfl, fun s hs => ?_⟩
    have := h s hs
    unfold lastV
    simp only [hs, List.length_append, List.length_cons, List.length_nil]
    rw [if_neg (by omega)]
    simp [List.getD]
theorem set_last {D : PD} {o : List Int × Option Nat} (h : StIn o) {s : Nat} (hs : o.2 = some s) (r : Int) : startV (o.1.set s r, some s) = startV o ∧ lastV D (o.1.set s r, some s) = lastV D o := by
  have hl := h s hs
  refine ⟨by unfold startV; rw [hs], ?_⟩
  unfold lastV
  rw [hs]
  simp only [List.length_set]
  split
  · rfl
  · rename_i e
    congr 1
    simp only [List.getD]
    rw [List.getElem?_set_ne (by omega)]
end Go.Proofs.YtikpkjpnehkbfaaGreatDoor.Nm
namespace Go.Proofs.YtikpkjpnehkbfaaGreatDoor.Nm
open Go Go.Lib Go.Proofs.YtikpkjpnehkbfaaGreatDoor.Sp
theorem flat_dec_len {D : PD} (h : Good D) (l : List Int) : (flat D (decN D l)).length = (flat D l).length := by
  rw [dec_flat h]; unfold decN; exact ordR_length _ _
theorem flat_comp_len {D : PD} (h : Good D) (l : List Int) : (flat D (compN D l)).length = (flat D l).length := by
  have e := congrArg List.length (dec_comp h l)
  unfold decN at e
  rwa [ordR_length, ordR_length] at e
structure PI (D : PD) (T O R : List Int) : Prop where
  dec : decN D T = O ++ R
  set : IsSet (classOf D) (decN D T) O.length
theorem PI.zero (D : PD) : PI D [] [] [] := ⟨rfl, ⟨Nat.le_refl _, .inl rfl, fun i x _ h => by simp [dec_nil] at h⟩⟩
theorem PI.rest {D : PD} {T O R : List Int} (h : PI D T O R) : (decN D T).take O.length = O ∧ (decN D T).drop O.length = R := by
  rw [h.dec]; exact ⟨List.take_left .., List.drop_left ..⟩
theorem PI.step {D : PD} (hg : Good D) {T O R M : List Int} {n : Nat} (h : PI D T O R) (hn : IsSet (classOf D) (decN D (R ++ M)) n) :
    PI D (T ++ M) (O ++ (decN D (R ++ M)).take n) ((decN D (R ++ M)).drop n) := by
  obtain ⟨e1, e2⟩ := h.rest
  have e := dec_more hg T M h.set
  rw [e1, e2] at e
  have k := h.set.more hn
  rw [e1] at k
  have hl := hn.le
  refine ⟨by rw [e, List.append_assoc, List.take_append_drop], ?_⟩
  rw [e, List.length_append, List.length_take, Nat.min_eq_left hl]
  exact k
end Go.Proofs.YtikpkjpnehkbfaaGreatDoor.Nm
namespace Go.Proofs.YtikpkjpnehkbfaaGreatDoor.Ut
open Go Go.Lib
def wid (l : List UInt8) (x : Nat) : Nat := (decodeL (l.drop x)).2
def run (l : List UInt8) (x : Nat) : Nat := (decodeL (l.drop x)).1
theorem wid_pos (l : List UInt8) (x : Nat) : 1 ≤ wid l x := decodeL_width _
theorem drop_ne {l : List UInt8} {x : Nat} (h : x < l.length) : l.drop x ≠ [] := by
  intro e
  have := congrArg List.length e
  simp at this
  omega
theorem wid_le {l : List UInt8} {x : Nat} (h : x < l.length) : x + wid l x ≤ l.length := by
  have := decodeL_le (l.drop x) (drop_ne h)
  rw [List.length_drop] at this
  unfold wid
  omega
theorem wid_at (l : List UInt8) (x : Nat) : decodeL (l.drop x) = decodeN (l.length - x) (l.getD x 0).toNat (l.getD (x + 1) 0).toNat (l.getD (x + 2) 0).toNat (l.getD (x + 3) 0).toNat := by
  rw [decodeL_N, List.length_drop, getD_dropU, getD_dropU, getD_dropU, getD_dropU, Nat.add_zero]
theorem wide {l : List UInt8} {x : Nat} (h : 1 < wid l x) : (l.getD x 0).toNat / 64 = 3 ∧ wid l x ≤ 4 ∧ x + wid l x ≤ l.length ∧ (∀ k, 0 < k → k < wid l x → (l.getD (x + k) 0).toNat / 64 = 2) ∧
    ∀ n, wid l x ≤ n → ∀ b1 b2 b3, b1 = (l.getD (x + 1) 0).toNat → (2 < wid l x → b2 = (l.getD (x + 2) 0).toNat) → (3 < wid l x → b3 = (l.getD (x + 3) 0).toNat) → decodeN n (l.getD x 0).toNat b1 b2 b3 = decodeL (l.drop x) := by
  have k0 := (l.getD x 0).toNat_lt
  unfold wid at h ⊢
  rw [wid_at] at h ⊢
  rcases decodeN_shape (l.length - x) (l.getD x 0).toNat (l.getD (x + 1) 0).toNat (l.getD (x + 2) 0).toNat (l.getD (x + 3) 0).toNat with ⟨c, e⟩ | ⟨c1, c2, c3, cv, e⟩ | ⟨c1, c2, c3, c4, cv, cs, e⟩ | ⟨c1, c2, c3, c4, c5, cv, cw, e⟩ | e
  · rw [e] at h; simp at h
  · rw [e] at h ⊢
    refine ⟨by omega, by simp, by simp only; omega, fun k hk hk2 => ?_, fun n hn b1 b2 b3 h1 h2 h3 => ?_⟩
    · obtain rfl : k = 1 := by simp only at hk2; omega
      exact c3
    · subst h1
      simp only at hn
      unfold decodeN
      rw [if_neg (by omega), if_pos ⟨c1, by omega, c3⟩, if_pos (by omega)]
  · rw [e] at h ⊢
    refine ⟨by omega, by simp, by simp only; omega, fun k hk hk2 => ?_, fun n hn b1 b2 b3 h1 h2 h3 => ?_⟩
    · simp only at hk2
      obtain rfl | rfl : k = 1 ∨ k = 2 := by omega
      · exact c3
      · exact c4
    · have h2 := h2 (by simp)
      subst h1 h2
      simp only at hn
      unfold decodeN
      rw [if_neg (by omega), if_neg (by omega), if_pos ⟨c1, ⟨by omega, c3⟩, by omega, c4⟩, if_pos ⟨by omega, by omega⟩]
  · rw [e] at h ⊢
    refine ⟨by omega, by simp, by simp only; omega, fun k hk hk2 => ?_, fun n hn b1 b2 b3 h1 h2 h3 => ?_⟩
    · simp only at hk2
      obtain rfl | rfl | rfl : k = 1 ∨ k = 2 ∨ k = 3 := by omega
      · exact c3
      · exact c4
      · exact c5
    · have h2 := h2 (by simp)
      have h3 := h3 (by simp)
      subst h1 h2 h3
      simp only at hn
      unfold decodeN
      rw [if_neg (by omega), if_neg (by omega), if_neg (by omega), if_pos ⟨c1, ⟨by omega, c3⟩, ⟨by omega, c4⟩, by omega, c5⟩, if_pos ⟨by omega, by omega⟩]
  · rw [e] at h; simp at h
theorem one {l : List UInt8} {x : Nat} (h : wid l x = 1) : ((l.getD x 0).toNat < 128 ∧ decodeL (l.drop x) = ((l.getD x 0).toNat, 1)) ∨ (128 ≤ (l.getD x 0).toNat ∧ decodeL (l.drop x) = (65533, 1)) := by
  unfold wid at h
  rw [wid_at] at h ⊢
  by_cases hb : (l.getD x 0).toNat < 128
  · exact .inl ⟨hb, decodeN_ascii _ _ _ _ _ hb⟩
  · refine .inr ⟨by omega, ?_⟩
    rcases decodeN_shape (l.length - x) (l.getD x 0).toNat (l.getD (x + 1) 0).toNat (l.getD (x + 2) 0).toNat (l.getD (x + 3) 0).toNat with ⟨c, e⟩ | ⟨c1, c2, c3, cv, e⟩ | ⟨c1, c2, c3, c4, cv, cs, e⟩ | ⟨c1, c2, c3, c4, c5, cv, cw, e⟩ | e
    · omega
    · rw [e] at h; simp at h
    · rw [e] at h; simp at h
    · rw [e] at h; simp at h
    · exact e
inductive Bd (l : List UInt8) : Nat → Prop
  | zero : Bd l 0
  | step {x : Nat} : Bd l x → x < l.length → Bd l (x + wid l x)
theorem Bd.le {l : List UInt8} {x : Nat} (h : Bd l x) : x ≤ l.length := by
  cases h with
  | zero => exact Nat.zero_le _
  | step h hx => exact wid_le hx
end Go.Proofs.YtikpkjpnehkbfaaGreatDoor.Ut
namespace Go.Proofs.YtikpkjpnehkbfaaGreatDoor.Nm
open Go Go.Lib Go.Proofs.YtikpkjpnehkbfaaGreatDoor.Sp Go.Proofs.YtikpkjpnehkbfaaGreatDoor.Ut
def ptL (l : Bytes) : Int := if decodeL l = (65533, 1) then 1114112 + ((l.getD 0 0).toNat : Int) else ((decodeL l).1 : Int)
def ptsL : Nat → Bytes → List Int
  | 0, _ => []
  | k + 1, l => if l = [] then [] else ptL l :: ptsL k (l.drop (decodeL l).2)
def ptsOf (l : Bytes) : List Int := ptsL l.length l
theorem drop_lt {l : Bytes} (h : l ≠ []) : (l.drop (decodeL l).2).length < l.length := by
  have := decodeL_width l
  have := List.length_pos_iff.2 h
  rw [List.length_drop]
  omega
theorem ptsL_fuel : ∀ (k m : Nat) (l : Bytes), l.length ≤ k → l.length ≤ m → ptsL k l = ptsL m l
  | 0, m, l, h, _ => by
    have : l = [] := List.length_eq_zero_iff.1 (by omega)
    subst this
    cases m <;> rfl
  | k + 1, 0, l, _, h => by
    have : l = [] := List.length_eq_zero_iff.1 (by omega)
    subst this
    rfl
  | k + 1, m + 1, l, h1, h2 => by
    unfold ptsL
    by_cases hl : l = []
    · rw [if_pos hl, if_pos hl]
    · have := drop_lt hl
      rw [if_neg hl, if_neg hl, ptsL_fuel k m _ (by omega) (by omega)]
theorem pts_nil : ptsOf [] = [] := rfl
theorem pts_step {l : Bytes} (h : l ≠ []) : ptsOf l = ptL l :: ptsOf (l.drop (decodeL l).2) := by
  have := drop_lt h
  have hp := List.length_pos_iff.2 h
  unfold ptsOf
  rw [show l.length = (l.length - 1) + 1 by omega, ptsL, if_neg h, ptsL_fuel (l.length - 1) (l.drop (decodeL l).2).length _ (by omega) (Nat.le_refl _)]
def okP (r : Int) : Prop := isChar r = true ∨ (1114240 ≤ r ∧ r ≤ 1114367)
def illP (r : Int) : Bool := decide (1114112 ≤ r)
theorem char_iff {r : Int} : isChar r = true ↔ 0 ≤ r ∧ r ≤ 1114111 ∧ (r < 55296 ∨ 57343 < r) := by
  unfold isChar
  simp only [Bool.and_eq_true, Bool.or_eq_true, decide_eq_true_eq, and_assoc]
theorem decode_char (l : Bytes) (hl : l ≠ []) : isChar ((decodeL l).1 : Int) = true ∧ (decodeL l = (65533, 1) → 128 ≤ (l.getD 0 0).toNat) := by
  rw [decodeL_N]
  have k0 := (l.getD 0 0).toNat_lt
  have hp := List.length_pos_iff.2 hl
  refine ⟨char_iff.2 ?_, fun h => ?_⟩
  · rcases decodeN_shape l.length (l.getD 0 0).toNat (l.getD 1 0).toNat (l.getD 2 0).toNat (l.getD 3 0).toNat with ⟨c, e⟩ | ⟨c1, c2, c3, cv, e⟩ | ⟨c1, c2, c3, c4, cv, cs, e⟩ | ⟨c1, c2, c3, c4, c5, cv, cw, e⟩ | e
    all_goals rw [e]; simp only; omega
  · by_cases hb : (l.getD 0 0).toNat < 128
    · rw [decodeN_ascii _ _ _ _ _ hb] at h
      injection h with h
      omega
    · omega
theorem ptL_ok {l : Bytes} (hl : l ≠ []) : okP (ptL l) := by
  obtain ⟨h1, h2⟩ := decode_char l hl
  have k0 := (l.getD 0 0).toNat_lt
  unfold ptL okP
  split
  · rename_i h
    have := h2 h
    right; omega
  · left; exact h1
theorem pts_ok : ∀ (n : Nat) (l : Bytes), l.length ≤ n → ∀ r ∈ ptsOf l, okP r
  | 0, l, h, r, hr => by
    have : l = [] := List.length_eq_zero_iff.1 (by omega)
    subst this
    cases hr
  | n + 1, l, h, r, hr => by
    by_cases hl : l = []
    · subst hl; cases hr
    · rw [pts_step hl] at hr
      have := drop_lt hl
      rcases List.mem_cons.1 hr with rfl | hr
      · exact ptL_ok hl
      · exact pts_ok n _ (by omega) r hr
theorem pts_length : ∀ (n : Nat) (l : Bytes), l.length ≤ n → (ptsOf l).length ≤ l.length
  | 0, l, h => by
    have : l = [] := List.length_eq_zero_iff.1 (by omega)
    subst this
    simp [pts_nil]
  | n + 1, l, h => by
    by_cases hl : l = []
    · subst hl; simp [pts_nil]
    · rw [pts_step hl]
      have := drop_lt hl
      have := pts_length n (l.drop (decodeL l).2) (by omega)
      simp only [List.length_cons]
      omega
def encP (r : Int) : Bytes := if 1114112 < r then [(r - 1114112).toNat.toUInt8] else encodeRune r
def textOf (l : List Int) : Bytes := l.flatMap encP
theorem text_cons (r : Int) (l : List Int) : textOf (r :: l) = encP r ++ textOf l := List.flatMap_cons
theorem encP_len (r : Int) : 1 ≤ (encP r).length ∧ (encP r).length ≤ 4 := by
  unfold encP
  split
  · simp
  · have := encodeRuneZ_length r
    simpa [encodeRune] using this
theorem text_length (l : List Int) : l.length ≤ (textOf l).length ∧ (textOf l).length ≤ 4 * l.length := by
  induction l with
  | nil => simp [textOf]
  | cons r l ih =>
    have := encP_len r
    rw [text_cons, List.length_append, List.length_cons]
    omega
theorem byteN {z : Int} (h0 : 0 ≤ z) (h1 : z < 256) : ((z.toNat.toUInt8).toNat : Int) = z := by
  simp only [Nat.toUInt8, UInt8.toNat_ofNat']
  omega
end Go.Proofs.YtikpkjpnehkbfaaGreatDoor.Nm
namespace Go.Proofs.YtikpkjpnehkbfaaGreatDoor.Nm
open Go Go.Lib Go.Proofs.YtikpkjpnehkbfaaGreatDoor.Sp Go.Proofs.YtikpkjpnehkbfaaGreatDoor.Ut
def rawL : Nat → Bytes → List Int
  | 0, _ => []
  | k + 1, l => if l = [] then [] else ((decodeL l).1 : Int) :: rawL k (l.drop (decodeL l).2)
def rawOf (l : Bytes) : List Int := rawL l.length l
theorem rawL_fuel : ∀ (k m : Nat) (l : Bytes), l.length ≤ k → l.length ≤ m → rawL k l = rawL m l
  | 0, m, l, h, _ => by
    have : l = [] := List.length_eq_zero_iff.1 (by omega)
    subst this
    cases m <;> rfl
  | k + 1, 0, l, _, h => by
    have : l = [] := List.length_eq_zero_iff.1 (by omega)
    subst this
    rfl
  | k + 1, m + 1, l, h1, h2 => by
    unfold rawL
    by_cases hl : l = []
    · rw [if_pos hl, if_pos hl]
    · have := drop_lt hl
      rw [if_neg hl, if_neg hl, rawL_fuel k m _ (by omega) (by omega)]
theorem raw_nil : rawOf [] = [] := rfl
theorem raw_step {l : Bytes} (h : l ≠ []) : rawOf l = ((decodeL l).1 : Int) :: rawOf (l.drop (decodeL l).2) := by
  have := drop_lt h
  have hp := List.length_pos_iff.2 h
  unfold rawOf
  rw [show l.length = (l.length - 1) + 1 by omega, rawL, if_neg h, rawL_fuel (l.length - 1) (l.drop (decodeL l).2).length _ (by omega) (Nat.le_refl _)]
theorem raw_len : ∀ (n : Nat) (l : Bytes), l.length ≤ n → (rawOf l).length = (ptsOf l).length
  | 0, l, h => by
    have : l = [] := List.length_eq_zero_iff.1 (by omega)
    subst this
    rfl
  | n + 1, l, h => by
    by_cases hl : l = []
    · subst hl; rfl
    · have := drop_lt hl
      rw [pts_step hl, raw_step hl, List.length_cons, List.length_cons, raw_len n _ (by omega)]
theorem ptsL_len (l : Bytes) : (ptsOf l).length ≤ l.length := pts_length l.length l (Nat.le_refl _)
theorem runesFrom_raw (s : ByteArray) : ∀ (bound i : Nat) (acc : Array Value), s.size ≤ bound + i → (Conv.runesFrom s bound i acc).toList = acc.toList ++ (rawOf (s.data.toList.drop i)).map (Value.int .i32)
  | 0, i, acc, h => by
    rw [List.drop_eq_nil_of_le (by rw [← Lib.size_eq]; omega)]
    simp [Conv.runesFrom, raw_nil]
  | b + 1, i, acc, h => by
    unfold Conv.runesFrom
    by_cases hi : i < s.size
    · rw [if_pos hi]
      have hne : s.data.toList.drop i ≠ [] := drop_ne (by rw [← Lib.size_eq]; exact hi)
      have hw := decodeL_width (s.data.toList.drop i)
      rw [raw_step hne]
      have e := Lib.decodeL_drop s i
      simp only
      rw [e] at hw ⊢
      rw [runesFrom_raw s b _ _ (by omega), List.drop_drop]
      simp
    · rw [if_neg hi, List.drop_eq_nil_of_le (by rw [← Lib.size_eq]; omega)]
      simp [raw_nil]
theorem runes_raw (s : ByteArray) : (Conv.runesFrom s s.size 0 #[]).toList = (rawOf s.data.toList).map (Value.int .i32) := by
  rw [runesFrom_raw s s.size 0 #[] (by omega)]
  simp
theorem runes_size (s : ByteArray) : (Conv.runesFrom s s.size 0 #[]).size = (ptsOf s.data.toList).length := by
  rw [← Array.length_toList, runes_raw, List.length_map, raw_len _ _ (Nat.le_refl _)]
theorem decode_widN (s : ByteArray) (x : Nat) : (Utf8.decode s x).2 = wid s.data.toList x := by unfold wid; rw [Lib.decodeL_drop]
theorem decode_runN (s : ByteArray) (x : Nat) : (Utf8.decode s x).1 = run s.data.toList x := by unfold run; rw [Lib.decodeL_drop]
theorem step_at {l : Bytes} {x : Nat} (h : x < l.length) : ptsOf (l.drop x) = ptL (l.drop x) :: ptsOf (l.drop (x + wid l x)) ∧ rawOf (l.drop x) = ((run l x : Nat) : Int) :: rawOf (l.drop (x + wid l x)) := by
  have hne := drop_ne h
  refine ⟨?_, ?_⟩
  · rw [pts_step hne, List.drop_drop]; rfl
  · rw [raw_step hne, List.drop_drop]; rfl
theorem pt_plain {l : Bytes} {x : Nat} (h : run l x ≠ 65533) : ptL (l.drop x) = ((run l x : Nat) : Int) := by
  unfold ptL
  rw [if_neg (fun e => h (by unfold run; rw [e]))]
  rfl
theorem pt_fffd {l : Bytes} {x : Nat} (hx : x < l.length) (h : run l x = 65533) : ptL (l.drop x) = if Lib.hasPrefix (l.drop x) [239, 191, 189] = true then 65533 else 1114112 + ((l.getD x 0).toNat : Int) := by
  have hne := drop_ne hx
  unfold ptL
  have hg : (l.drop x).getD 0 0 = l.getD x 0 := by rw [getD_dropU, Nat.add_zero]
  rw [hg]
  by_cases he : decodeL (l.drop x) = (65533, 1)
  · rw [if_pos he, if_neg ?_]
    intro hp
    rw [← Lib.hasPrefix_of_take] at hp
    simp only [Bool.and_eq_true, decide_eq_true_eq, beq_iff_eq] at hp
    obtain ⟨h3, ht⟩ := hp
    have h3' : 3 ≤ (l.drop x).length := h3
    have ht' : (l.drop x).take 3 = [239, 191, 189] := ht
    have ea : ∀ i, i < 3 → (l.drop x).getD i 0 = ([239, 191, 189] : Bytes).getD i 0 := fun i hi => by
      rw [← ht']
      simp [List.getD, List.getElem?_take, hi]
    have e0 := ea 0 (by omega)
    have e1 := ea 1 (by omega)
    have e2 := ea 2 (by omega)
    rw [decodeL_N, e0, e1, e2] at he
    unfold decodeN at he
    simp at he
    have : 2 < (l.drop x).length := by omega
    simp at this
    omega
  · rw [if_neg he, if_pos ?_]
    · have : (decodeL (l.drop x)).1 = 65533 := h
      rw [this]; rfl
    · have h1 : (decodeL (l.drop x)).1 = 65533 := h
      have hh := encode_decode (l.drop x) hne (fun e => he (Prod.ext e.1 e.2))
      rw [h1] at hh
      have hc : encodeRune ((65533 : Nat) : Int) = [239, 191, 189] := by decide
      rw [hc] at hh
      unfold Lib.hasPrefix
      rw [List.isPrefixOf_iff_prefix]
      rw [hh]
      exact List.take_prefix _ _
theorem byte_of {a : Int} {b : Nat} (h : a = (b : Int)) : a.toNat.toUInt8 = UInt8.ofNat b := by subst h; rfl
theorem encode_rune (r : Int) (h : isChar r = true) : (Utf8.encode r).data.toList = encodeRune r := by
  obtain ⟨h0, h1, h2⟩ := char_iff.1 h
  have hv : Utf8.valid r = true := by
    rw [Go.validRune_eq]
    unfold Go.validRune
    exact decide_eq_true (by omega)
  obtain ⟨n, rfl⟩ : ∃ n : Nat, r = (n : Int) := ⟨r.toNat, by omega⟩
  unfold Utf8.encode encodeRune encodeRuneZ
  simp only [hv, if_true, Int.toNat_natCast]
  have i1 (h : ¬ n < 128) : ¬ (0 ≤ (n : Int) ∧ (n : Int) ≤ 127) := by omega
  have i2 (h : ¬ n < 2048) : ¬ (128 ≤ (n : Int) ∧ (n : Int) ≤ 2047) := by omega
  by_cases a : n < 128
  · have j : 0 ≤ (n : Int) ∧ (n : Int) ≤ 127 := by omega
    rw [if_pos a, if_pos j]
    simp only [List.map_cons, List.map_nil]
    rw [byte_of (b := n) rfl]
  · rw [if_neg a, if_neg (i1 a)]
    by_cases b : n < 2048
    · have j : 128 ≤ (n : Int) ∧ (n : Int) ≤ 2047 := by omega
      rw [if_pos b, if_pos j]
      simp only [List.map_cons, List.map_nil]
      rw [byte_of (b := 192 + n / 64) (by omega), byte_of (b := 128 + n % 64) (by omega)]
    · rw [if_neg b, if_neg (i2 b)]
      by_cases c : n < 65536
      · have j : (2048 ≤ (n : Int) ∧ (n : Int) < 55296) ∨ (57343 < (n : Int) ∧ (n : Int) ≤ 65535) := by omega
        rw [if_pos c, if_pos j]
        simp only [List.map_cons, List.map_nil]
        rw [byte_of (b := 224 + n / 4096) (by omega), byte_of (b := 128 + n / 64 % 64) (by omega), byte_of (b := 128 + n % 64) (by omega)]
      · have j : ¬ ((2048 ≤ (n : Int) ∧ (n : Int) < 55296) ∨ (57343 < (n : Int) ∧ (n : Int) ≤ 65535)) := by omega
        have j2 : 65536 ≤ (n : Int) ∧ (n : Int) ≤ 1114111 := by omega
        rw [if_neg c, if_neg j, if_pos j2]
        simp only [List.map_cons, List.map_nil]
        rw [byte_of (b := 240 + n / 262144) (by omega), byte_of (b := 128 + n / 4096 % 64) (by omega), byte_of (b := 128 + n / 64 % 64) (by omega), byte_of (b := 128 + n % 64) (by omega)]
theorem valid_char (r : Int) : Lib.validRune r = isChar r := by
  rw [Bool.eq_iff_iff, char_iff]
  unfold Lib.validRune
  rw [decide_eq_true_eq]
  omega
end Go.Proofs.YtikpkjpnehkbfaaGreatDoor.Nm
namespace Go.Proofs.YtikpkjpnehkbfaaGreatDoor.Nm
open Go Go.Lib Go.Proofs.YtikpkjpnehkbfaaGreatDoor.Sp Go.Proofs.YtikpkjpnehkbfaaGreatDoor.Ut
def byteP (r : Int) : UInt8 := (r - 1114112).toNat.toUInt8
theorem char_ill {r : Int} (h : isChar r = true) : illP r = false := by
  have := char_iff.1 h
  simp [illP]; omega
theorem getD_at {a v : Bytes} {i : Nat} (h : i = a.length) : (a ++ v).getD i 0 = v.getD 0 0 := by subst h; simp [List.getD, List.getElem?_append_right]
def skC : List (Option UInt8) → List (Option UInt8)
  | none :: t => none :: t
  | t => none :: t
def sk : List Int → List (Option UInt8)
  | [] => []
  | r :: t => if illP r = true then some (byteP r) :: sk t else skC (sk t)
theorem skC_idem (t : List (Option UInt8)) : skC (skC t) = skC t := by
  cases t with
  | nil => rfl
  | cons a t => cases a <;> rfl
theorem sk_cons {r : Int} (h : illP r = false) (t : List Int) : sk (r :: t) = skC (sk t) := by rw [sk, h]; rfl
theorem sk_plain : ∀ (w : List Int), w ≠ [] → (∀ x ∈ w, illP x = false) → ∀ t, sk (w ++ t) = skC (sk t)
  | [], h, _, _ => absurd rfl h
  | x :: w, _, h, t => by
    rw [List.cons_append, sk_cons (h x (by simp))]
    by_cases hw : w = []
    · rw [hw]; rfl
    · rw [sk_plain w hw (fun y hy => h y (by simp [hy])), skC_idem]
theorem sk_app : ∀ (a : List Int) {t t' : List Int}, sk t = sk t' → sk (a ++ t) = sk (a ++ t')
  | [], _, _, h => h
  | x :: a, t, t', h => by
    have ih := sk_app a h
    rw [List.cons_append, List.cons_append, sk, sk, ih]
theorem whole_char {D : PD} (hok : ∃ st : St, st.d = D ∧ StOk st) : ∀ (k : Nat) (r : Int), isChar r = true → ∀ x ∈ wholeGo D k r, isChar x = true
  | 0, r, h, x, hx => by
    rw [wholeGo, List.mem_singleton] at hx
    rw [hx]; exact h
  | k + 1, r, h, x, hx => by
    rw [wholeGo] at hx
    split at hx
    · rw [List.mem_singleton] at hx
      rw [hx]; exact h
    · obtain ⟨q, hq, hx⟩ := List.mem_flatMap.1 hx
      refine whole_char hok k q ?_ x hx
      obtain ⟨st, rfl, ho⟩ := hok
      unfold decompOf at hq
      split at hq
      · rename_i hs
        have hb : 44032 ≤ r ∧ r < 55204 := by simp [isSyl] at hs; exact hs
        unfold sylOf at hq
        simp only [List.mem_append, List.mem_cons, List.not_mem_nil, or_false] at hq
        rcases hq with (rfl | rfl) | hq
        · exact char_iff.2 (by omega)
        · exact char_iff.2 (by omega)
        · split at hq
          · cases hq
          · simp only [List.mem_singleton] at hq
            subst hq
            exact char_iff.2 (by omega)
      · cases hl : lookD st.d.decomps r with
        | none => rw [hl] at hq; cases hq
        | some ps =>
          rw [hl] at hq
          exact (ho.chars _ (lookD_in hl)).2 q hq
theorem decomp_char {D : PD} (h : Good D) {r : Int} (hd : decompOf D r ≠ []) : isChar r = true := by
  obtain ⟨st, rfl, ho⟩ := h.ok
  unfold decompOf at hd
  split at hd
  · rename_i hs
    have hb : 44032 ≤ r ∧ r < 55204 := by simp [isSyl] at hs; exact hs
    exact char_iff.2 (by omega)
  · cases hl : lookD st.d.decomps r with
    | none => rw [hl] at hd; exact absurd rfl hd
    | some ps => exact (ho.chars _ (lookD_in hl)).1
theorem whole_ill {D : PD} (h : Good D) {r : Int} (hc : isChar r = false) : wholeOf D r = [r] := by
  refine whole_leaf ?_
  cases hd : decompOf D r with
  | nil => rfl
  | cons q l =>
    have := decomp_char h (r := r) (by rw [hd]; simp)
    rw [hc] at this; cases this
theorem whole_ok {D : PD} (h : Good D) {r : Int} (hr : okP r) : ∀ x ∈ wholeOf D r, okP x ∧ illP x = illP r := by
  intro x hx
  by_cases hc : isChar r = true
  · have := whole_char h.ok _ r hc x hx
    exact ⟨.inl this, by rw [char_ill this, char_ill hc]⟩
  · rw [whole_ill h (by simpa using hc), List.mem_singleton] at hx
    rw [hx]
    exact ⟨hr, rfl⟩
theorem dec_ok {D : PD} (h : Good D) {l : List Int} (hl : ∀ x ∈ l, okP x) : ∀ x ∈ decN D l, okP x := by
  intro x hx
  obtain ⟨r, hr, hx⟩ := dec_mem.1 hx
  exact (whole_ok h (hl r hr) x hx).1
theorem class_ill {D : PD} {r : Int} (h : 0 < classOf D r) : illP r = false := by
  by_cases hc : isChar r = true
  · exact char_ill hc
  · exfalso
    unfold classOf at h
    rw [show isChar r = false by simpa using hc] at h
    simp at h
theorem sk_flat {D : PD} (h : Good D) : ∀ {l : List Int}, (∀ x ∈ l, okP x) → sk (flat D l) = sk l
  | [], _ => rfl
  | r :: l, hl => by
    have ih := sk_flat h (l := l) (fun x hx => hl x (by simp [hx]))
    rw [flat_cons]
    cases hi : illP r with
    | true =>
      have hc : isChar r = false := by
        cases hc : isChar r with
        | false => rfl
        | true => rw [char_ill hc] at hi; cases hi
      rw [whole_ill h hc, List.singleton_append, sk, sk, ih]
    | false =>
      have hne : wholeOf D r ≠ [] := by
        intro e
        have := (h.len r).1
        rw [e] at this
        cases this
      rw [sk_plain _ hne (fun x hx => by rw [(whole_ok h (hl r (by simp)) x hx).2]; exact hi), sk_cons hi, ih]
theorem sk_ins {D : PD} (x : Int) : ∀ (r : List Int) (B : List Int), sk ((ins (classOf D) x r).reverse ++ B) = sk (r.reverse ++ (x :: B))
  | [], B => rfl
  | y :: t, B => by
    unfold ins
    by_cases hxy : 0 < classOf D x ∧ classOf D x < classOf D y
    · rw [if_pos hxy, List.reverse_cons, List.append_assoc, sk_ins x t ([y] ++ B), List.reverse_cons, List.append_assoc]
      refine sk_app _ ?_
      have hx := class_ill hxy.1
      have hy := class_ill (D := D) (r := y) (by omega)
      rw [List.singleton_append, List.singleton_append, sk_cons hx, sk_cons hy, sk_cons hy, sk_cons hx]
    · rw [if_neg hxy, List.reverse_cons, List.append_assoc]
      rfl
theorem sk_ordR {D : PD} (l : List Int) : sk (ordR (classOf D) l) = sk l := by
  have key : ∀ (l r B : List Int), sk ((l.foldl (fun r x => ins (classOf D) x r) r).reverse ++ B) = sk (r.reverse ++ (l ++ B)) := by
    intro l
    induction l with
    | nil => intro r B; rfl
    | cons x l ih => intro r B; rw [List.foldl_cons, ih, sk_ins]; rfl
  have := key l [] []
  simp only [List.append_nil, List.reverse_nil, List.nil_append] at this
  exact this
theorem sk_dec {D : PD} (h : Good D) {l : List Int} (hl : ∀ x ∈ l, okP x) : sk (decN D l) = sk l := (sk_ordR _).trans (sk_flat h hl)
theorem compose_char {D : PD} (h : Good D) {a b r : Int} (hc : composeOf D a b = some r) : isChar r = true ∧ isChar a = true ∧ isChar b = true := by
  obtain ⟨st, rfl, ho⟩ := h.ok
  unfold composeOf at hc
  split at hc
  · injection hc with hc
    exact ⟨char_iff.2 (by omega), char_iff.2 (by omega), char_iff.2 (by omega)⟩
  · split at hc
    · rename_i hs
      have hb : 44032 ≤ a ∧ a < 55204 := by have := hs.1; simp [isSyl] at this; exact this
      injection hc with hc
      exact ⟨char_iff.2 (by omega), char_iff.2 (by omega), char_iff.2 (by omega)⟩
    · split at hc
      · cases hc
      · have hm := ho.chars _ (least_some hc).1
        exact ⟨hm.1, hm.2 a (by simp), hm.2 b (by simp)⟩
theorem comp_sk {D : PD} (h : Good D) : ∀ (d p : List Int) (o : List Int × Option Nat), Ord (classOf D) (p ++ d) → (∀ x ∈ d, decompOf D x = []) → CI D p o → (o.1 ≠ [] → p ≠ []) → (∀ x ∈ o.1, okP x) → (∀ x ∈ d, okP x) →
    sk (d.foldl (compStep D) o).1 = sk (o.1 ++ d) ∧ ∀ x ∈ (d.foldl (compStep D) o).1, okP x
  | [], p, o, _, _, hi, _, h1, _ => ⟨by rw [List.append_nil]; rfl, h1⟩
  | c :: d, p, o, ho, hd, hi, hne, h1, h2 => by
    have hc := hd c (by simp)
    have hoc : ∀ z, p.getLast? = some z → 0 < classOf D c → classOf D z ≤ classOf D c := by
      intro z hz h0
      rw [List.getLast?_eq_getElem?] at hz
      have hl := (List.getElem?_eq_some_iff.1 hz).1
      refine ho (p.length - 1) z c ?_ ?_ h0
      · rw [List.getElem?_append_left hl]; exact hz
      · rw [List.getElem?_append_right (by omega), show p.length - 1 + 1 - p.length = 0 by omega]; rfl
    rw [show p ++ c :: d = (p ++ [c]) ++ d by simp] at ho
    rw [List.foldl_cons]
    have next : ∀ o', CI D (p ++ [c]) o' → (∀ x ∈ o'.1, okP x) → sk (o'.1 ++ d) = sk (o.1 ++ c :: d) → sk (d.foldl (compStep D) o').1 = sk (o.1 ++ c :: d) ∧ ∀ x ∈ (d.foldl (compStep D) o').1, okP x := fun o' a b e => by
      have ih := comp_sk h d (p ++ [c]) o' ho (fun x hx => hd x (by simp [hx])) a (fun _ => by simp) b (fun x hx => h2 x (by simp [hx]))
      exact ⟨ih.1.trans e, ih.2⟩
    have hpush : sk (d.foldl (compStep D) (push D o c)).1 = sk (o.1 ++ c :: d) ∧ ∀ x ∈ (d.foldl (compStep D) (push D o c)).1, okP x :=
      next _ (hi.push h hc hoc hne) (fun x hx => by
        unfold push at hx
        rcases List.mem_append.1 hx with hx | hx
        · exact h1 x hx
        · rw [List.mem_singleton] at hx
          rw [hx]; exact h2 c (by simp)) (by unfold push; simp)
    unfold compStep
    cases hs : o.2 with
    | none => exact hpush
    | some s =>
      simp only
      split
      · rename_i hf
        cases hr : composeOf D (o.1.getD s 0) c with
        | none => exact hpush
        | some r =>
          obtain ⟨A, a, B, e, es, k1, k2, k3⟩ := hi.shape s hs
          have hr' := hr
          rw [e, es, getD_mid] at hr'
          obtain ⟨c1, c2, c3⟩ := compose_char h hr'
          refine next _ (hi.comp h hs hf hr hc hoc) (fun x hx => ?_) ?_
          · simp only [e, es, set_mid] at hx
            rcases List.mem_append.1 hx with hx | hx
            · exact h1 x (by rw [e]; simp [hx])
            · rcases List.mem_cons.1 hx with rfl | hx
              · exact .inl c1
              · exact h1 x (by rw [e]; simp [hx])
          · simp only [e, es, set_mid, List.append_assoc]
            refine sk_app _ ?_
            rw [sk_plain (r :: B) (by simp) (fun x hx => by
              rcases List.mem_cons.1 hx with rfl | hx
              · exact char_ill c1
              · exact class_ill (k1 x hx).1), sk_plain (a :: B) (by simp) (fun x hx => by
              rcases List.mem_cons.1 hx with rfl | hx
              · exact char_ill c2
              · exact class_ill (k1 x hx).1), sk_cons (char_ill c3), skC_idem]
      · exact hpush
theorem sk_comp {D : PD} (h : Good D) {l : List Int} (hl : ∀ x ∈ l, okP x) : sk (compN D l) = sk l ∧ ∀ x ∈ compN D l, okP x := by
  have := comp_sk h (decN D l) [] ([], none) (dec_ord D l) (fun x hx => dec_leaf h hx) (CI.zero D) (fun e => absurd rfl e) (fun x hx => by cases hx) (dec_ok h hl)
  exact ⟨this.1.trans (sk_dec h hl), this.2⟩
end Go.Proofs.YtikpkjpnehkbfaaGreatDoor.Nm
namespace Go.Proofs.YtikpkjpnehkbfaaGreatDoor.Nm
open Go.Proofs.YtikpkjpnehkbfaaGreatDoor.Sp
def smallText : Bytes := [99, 108, 97, 115, 115, 32, 48, 51, 48, 48, 46, 46, 48, 51, 48, 52, 32, 50, 51, 48, 10, 99, 108, 97, 115, 115, 32, 48, 51, 48, 50, 32, 48, 10, 99, 108, 97, 115, 115, 32, 48, 51, 50, 55, 32, 50, 48, 50, 10, 100, 101, 99, 111, 109, 112, 32, 48, 48, 67, 48, 32, 48, 48, 52, 49, 32, 48, 51, 48, 48, 10, 100, 101, 99, 111, 109, 112, 32, 49, 69, 65, 54, 32, 48, 48, 67, 48, 32, 48, 51, 48, 49, 10, 100, 101, 99, 111, 109, 112, 32, 48, 48, 67, 53, 32, 48, 48, 52, 49, 32, 48, 51, 48, 48, 10]
def smallD : PD := { classes := [⟨768, 772, 230⟩, ⟨770, 770, 0⟩, ⟨807, 807, 202⟩], decomps := [(192, [65, 768]), (7846, [192, 769]), (197, [65, 768])] }
theorem small_lines : doLines {} (pieces 10 smallText) 1 = .ok { d := smallD, lines := [(192, 4), (7846, 5), (197, 6)] } := by rfl
theorem small_parse : parse smallText = .ok smallD := by
  unfold parse
  rw [if_neg (by decide), small_lines]
  have hb : badLeast { d := smallD, lines := [(192, 4), (7846, 5), (197, 6)] } = none := badLeast_none (fun p hp => by
    simp only [List.mem_cons, List.not_mem_nil, or_false] at hp
    rcases hp with rfl | rfl | rfl
    · exact badOf_none (n := 2) ⟨3, by rfl⟩ (by decide)
    · exact badOf_none (n := 3) ⟨4, by rfl⟩ (by decide)
    · exact badOf_none (n := 2) ⟨3, by rfl⟩ (by decide))
  simp only [hb]
theorem small_dec : decN smallD [7846, 807] = [65, 807, 768, 769] := by decide +kernel
theorem small_comp : compN smallD [65, 807, 768] = [192, 807] := by decide +kernel
theorem small_write : decN smallD [65, 768] = [65, 768] ∧ settled (classOf smallD) [65, 768] = 1 := by decide +kernel
theorem small_text : textOf (decN smallD (ptsOf [195, 128])) = [65, 204, 128] := by decide +kernel
end Go.Proofs.YtikpkjpnehkbfaaGreatDoor.Nm
namespace Go.Proofs.YtikpkjpnehkbfaaGreatDoor.Nm
open Go Go.Lib Go.Proofs.YtikpkjpnehkbfaaGreatDoor.Sp Go.Proofs.YtikpkjpnehkbfaaGreatDoor.Ut
end Go.Proofs.YtikpkjpnehkbfaaGreatDoor.Nm
