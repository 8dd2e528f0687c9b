/- What the reference keeps of a file, as it lies in memory: four rows. -/
import Derived.Test.YtikpkjpnehkbfaaGreatDoorRefLines
import Derived.Test.YtikpkjpnehkbfaaGreatDoorBPoints
import Derived.Deep.AppendLies
namespace Go.Proofs.YtikpkjpnehkbfaaGreatDoor.Rf
open Go Go.RowKit Go.Shelf Go.Proofs.YtikpkjpnehkbfaaGreatDoor.Sp Go.Proofs.YtikpkjpnehkbfaaGreatDoor.Pr Go.Proofs.YtikpkjpnehkbfaaGreatDoor.Rowl
set_option linter.unusedSimpArgs false

def rowT : TypeId := 180
def lineT : TypeId := 147
def ty (i : Nat) : TypeId := if i < 2 then 180 else 147
def upd {α : Type} (f : Nat → α) (i : Nat) (x : α) : Nat → α := fun j => if j = i then x else f j
theorem upd_same {α : Type} (f : Nat → α) (i : Nat) (x : α) : upd f i x i = x := by simp [upd]
theorem upd_other {α : Type} (f : Nat → α) {i j : Nat} (x : α) (h : j ≠ i) : upd f i x j = f j := by simp [upd, h]
/-- The four rows at block q: classes, kinds, folds, decomps. -/
structure Ref4 (q n₀ : Nat) (W : World) (v : Nat → Value) (xs : Nat → List Value) (n : Nat → Nat) : Prop where
  hp : W.heap[q]? = some (.cells #[v 0, v 1, v 2, v 3] 141 (0, 0))
  base : n₀ ≤ q
  own : ∀ i, i < 4 → W.ownsRow n₀ (ty i) 3 (v i) (n i) (xs i)
  apart : ∀ i j, i < 4 → j < 4 → i ≠ j → ∀ g, (v i).ownBlock = some g → (v j).ownBlock ≠ some g
theorem ty_ne (i : Nat) : ty i ≠ 141 ∧ ty i ≠ 21 ∧ ty i ≠ 9 ∧ (ty i = rowT ∨ ty i = lineT) := by
  unfold ty rowT lineT
  split
  · exact ⟨by decide, by decide, by decide, .inl rfl⟩
  · exact ⟨by decide, by decide, by decide, .inr rfl⟩
section
variable {q n₀ : Nat} {W W' : World} {v : Nat → Value} {xs : Nat → List Value} {n : Nat → Nat}
theorem Ref4.ne (h : Ref4 q n₀ W v xs n) {i : Nat} {v' : Value} {m : Nat} {ys : List Value} (hv : W.ownsRow n₀ (ty i) 3 v' m ys) : v'.ownBlock ≠ some q :=
  own_ne hv h.hp (fun cur e => by injection e with _ e _; exact (ty_ne i).1 e.symm)
theorem Ref4.grown (h : Ref4 q n₀ W v xs n) {r : Option Nat} (hg : W.grownBy W' r) (hr : ∀ k, r = some k → k ≠ q ∧ ∀ i, i < 4 → (v i).ownBlock ≠ some k) : Ref4 q n₀ W' v xs n where
  hp := (hg.block _ (lt_of_block h.hp) (fun e => (hr _ e.symm).1 rfl)).trans h.hp
  base := h.base
  own := fun i hi => (h.own i hi).kept hg (by
    cases r with
    | none => cases (v i).ownBlock <;> simp
    | some k => exact .inr ((hr k rfl).2 i hi))
  apart := h.apart
theorem Ref4.later (h : Ref4 q n₀ W v xs n) (hb : Below W.heap.size W W') : Ref4 q n₀ W' v xs n := h.grown (grown_of_below hb) (fun k e => by cases e)
/-- A row more: behind an append the field is written. -/
theorem Ref4.put (h : Ref4 q n₀ W v xs n) (i : Nat) (hi : i < 4) {v' : Value} {m : Nat} {news : List Value} (hg : W.grownBy W' (v i).ownBlock) (hown : W'.ownsRow n₀ (ty i) 3 v' m (xs i ++ news))
    (hat : v'.ownBlock = (v i).ownBlock ∨ ∃ g, v'.ownBlock = some g ∧ W.heap.size ≤ g) : Ref4 q n₀ (W'.setCell ⟨q, i, none⟩ v') (upd v i v') (upd xs i (xs i ++ news)) (upd n i m) := by
  have hq : (v i).ownBlock ≠ some q := h.ne (h.own i hi)
  have hp1 : W'.heap[q]? = some (.cells #[v 0, v 1, v 2, v 3] 141 (0, 0)) := (hg.block _ (lt_of_block h.hp) (fun e => hq e.symm)).trans h.hp
  have hs := setCell_grown W' ⟨q, i, none⟩ v'
  have hvq : v'.ownBlock ≠ some q := own_ne hown hp1 (fun cur e => by injection e with _ e _; exact (ty_ne i).1 e.symm)
  have hlt : ∀ j, j < 4 → ∀ g, (v j).ownBlock = some g → g < W.heap.size := fun j hj g hg => by
    obtain ⟨_, cur, hh⟩ := own_block (h.own j hj) hg
    exact lt_of_block hh
  refine ⟨?_, h.base, fun j hj => ?_, fun a b ha hb hab g hga hgb => ?_⟩
  · rw [heap_setCell_same W' q i _ _ v' hp1]
    match i, hi with
    | 0, _ => rfl
    | 1, _ => rfl
    | 2, _ => rfl
    | 3, _ => rfl
  · by_cases hji : j = i
    · subst hji
      rw [upd_same, upd_same, upd_same]
      exact hown.kept hs (.inr hvq)
    · rw [upd_other _ _ hji, upd_other _ _ hji, upd_other _ _ hji]
      have h1 : W'.ownsRow n₀ (ty j) 3 (v j) (n j) (xs j) := (h.own j hj).kept hg (by
        cases hcb : (v i).ownBlock with
        | none => cases (v j).ownBlock <;> simp
        | some g => exact .inr (h.apart i j hi hj (Ne.symm hji) g hcb))
      exact h1.kept hs (.inr (h.ne (h.own j hj)))
  · by_cases hai : a = i
    · subst hai
      rw [upd_same] at hga
      have hba : b ≠ a := Ne.symm hab
      rw [upd_other _ _ hba] at hgb
      rcases hat with e | ⟨g', e, hl⟩
      · exact h.apart a b hi hb hab g (e ▸ hga) hgb
      · rw [e] at hga
        injection hga with hga
        subst hga
        have := hlt b hb _ hgb
        omega
    · rw [upd_other _ _ hai] at hga
      by_cases hbi : b = i
      · subst hbi
        rw [upd_same] at hgb
        rcases hat with e | ⟨g', e, hl⟩
        · exact h.apart a b ha hi hab g hga (e ▸ hgb)
        · rw [e] at hgb
          injection hgb with hgb
          subst hgb
          have := hlt a ha _ hga
          omega
      · rw [upd_other _ _ hbi] at hgb
        exact h.apart a b ha hb hab g hga hgb
end

/-! ### what stays as it was -/
structure Fr (q n₀ : Nat) (w w' : World) : Prop where
  low : Below n₀ w w'
  keep : ∀ k, k < w.heap.size → k ≠ q → (∀ cs t, w.heap[k]? = some (.cells cs t (0, 0)) → t ≠ rowT ∧ t ≠ lineT) → w'.heap[k]? = w.heap[k]?
theorem Fr.of {q n₀ : Nat} {w w' : World} (h : Below w.heap.size w w') (hn : n₀ ≤ w.heap.size) : Fr q n₀ w w' := ⟨h.mono hn, fun k hk _ _ => h.block k hk⟩
theorem Fr.trans {q n₀ : Nat} {a b c : World} (h : Fr q n₀ a b) (h' : Fr q n₀ b c) : Fr q n₀ a c :=
  ⟨h.low.trans h'.low, fun k hk hq ht => by
    have e := h.keep k hk hq ht
    exact (h'.keep k (Nat.lt_of_lt_of_le hk h.low.size) hq (fun cs t ho => ht cs t (e ▸ ho))).trans e⟩
theorem Fr.put {q n₀ : Nat} {W W' : World} {v : Nat → Value} {xs : Nat → List Value} {n : Nat → Nat} (h : Ref4 q n₀ W v xs n) (i : Nat) (hi : i < 4) (hn : n₀ ≤ W.heap.size) (hg : W.grownBy W' (v i).ownBlock) (v' : Value) : Fr q n₀ W (W'.setCell ⟨q, i, none⟩ v') := by
  have hs := setCell_grown W' ⟨q, i, none⟩ v'
  refine ⟨((Below.refl n₀ W).grown hg hn (fun k e => (own_block (h.own i hi) e).1)).grown hs (Nat.le_trans hn hg.size) (fun k e => by injection e with e; subst e; exact h.base), fun k hk hq ht => ?_⟩
  have h1 : W'.heap[k]? = W.heap[k]? := hg.block k hk (fun e => by
    obtain ⟨_, cur, hh⟩ := own_block (h.own i hi) e.symm
    have := ht cur (ty i) hh
    rcases (ty_ne i).2.2.2 with e | e
    · exact this.1 e
    · exact this.2 e)
  exact (hs.block k (Nat.lt_of_lt_of_le hk hg.size) (fun e => hq (by injection e))).trans h1
theorem Fr.strs {q n₀ nb : Nat} {w w' : World} (h : Fr q n₀ w w') (hq : ∃ cs, w.heap[q]? = some (.cells cs 141 (0, 0))) {v : Value} {l : List ByteArray} (hv : OwnStrs nb w v l) : OwnStrs nb w' v l := by
  obtain ⟨h1, h2⟩ := hv
  refine ⟨h1, ?_⟩
  rcases h2 with h2 | ⟨g, cap, cur, rfl, hg, hh, r⟩
  · exact .inl h2
  · refine .inr ⟨g, cap, cur, rfl, hg, ?_, r⟩
    obtain ⟨cs, hc⟩ := hq
    rw [h.keep g (lt_of_block hh) (fun e => by subst e; exact absurd (cells_type hh hc) (by decide)) (fun cs t ho => by
      have := cells_type hh ho
      subst this
      exact ⟨by unfold rowT; decide, by unfold lineT; decide⟩)]
    exact hh
theorem Fr.pts {q n₀ : Nat} {w w' : World} (h : Fr q n₀ w w') (hq : ∃ cs, w.heap[q]? = some (.cells cs 141 (0, 0))) {v : Value} {l : List Int} (hv : PtsB w v l) : PtsB w' v l := by
  obtain ⟨b, off, cap, cs, e, hb, r⟩ := hv
  refine ⟨b, off, cap, cs, e, ?_, r⟩
  obtain ⟨cq, hc⟩ := hq
  rw [h.keep b (lt_of_block hb) (fun e => by subst e; exact absurd (cells_type hb hc) (by decide)) (fun cs t ho => by
    have := cells_type hb ho
    subst this
    exact ⟨by unfold rowT; decide, by unfold lineT; decide⟩)]
  exact hb

/-! ### what the rows mean -/
def rowC (x : Row) : List Value := [.int .i64 x.lo, .int .i64 x.hi, .int .i64 x.n]
def flatR (l : List Row) : List Value := l.flatMap rowC
theorem flatR_length (l : List Row) : (flatR l).length = l.length * 3 := by
  induction l with
  | nil => rfl
  | cons x l ih => simp only [flatR, List.flatMap_cons, List.length_append, List.length_cons] at ih ⊢; simp only [ih, rowC, List.length_cons, List.length_nil]; omega
/-- Lines of fold or decomp: three cells each: of, to, line. -/
def LinesMean (W : World) : List Value → List (Int × List Int) → List Int → Prop
  | ys, [], [] => ys = []
  | ys, p :: l, k :: ks => ∃ tv ys', ys = .int .i64 p.1 :: tv :: .int .i64 k :: ys' ∧ PtsB W tv p.2 ∧ LinesMean W ys' l ks
  | _, _, _ => False
theorem LinesMean.map {W W' : World} (hm : ∀ tv ps, PtsB W tv ps → PtsB W' tv ps) : ∀ {ys : List Value} {l : List (Int × List Int)} {ks : List Int}, LinesMean W ys l ks → LinesMean W' ys l ks
  | _, [], [], h => h
  | _, _ :: _, _ :: _, ⟨tv, ys', e, h1, h2⟩ => ⟨tv, ys', e, hm _ _ h1, h2.map hm⟩
  | _, [], _ :: _, h => h.elim
  | _, _ :: _, [], h => h.elim
theorem LinesMean.snoc {W : World} {r k : Int} {ps : List Int} {tv : Value} (hp : PtsB W tv ps) : ∀ {ys : List Value} {l : List (Int × List Int)} {ks : List Int}, LinesMean W ys l ks → LinesMean W (ys ++ [.int .i64 r, tv, .int .i64 k]) (l ++ [(r, ps)]) (ks ++ [k])
  | _, [], [], h => by
    have h : _ = [] := h
    subst h
    exact ⟨tv, [], rfl, hp, rfl⟩
  | _, _ :: _, _ :: _, ⟨tv', ys', e, h1, h2⟩ => ⟨tv', _, by rw [e]; rfl, h1, h2.snoc hp⟩
  | _, [], _ :: _, h => h.elim
  | _, _ :: _, [], h => h.elim
theorem LinesMean.at {W : World} : ∀ {ys : List Value} {l : List (Int × List Int)} {ks : List Int} (_ : LinesMean W ys l ks) (i : Nat) (p : Int × List Int), l[i]? = some p → ∃ tv k, ys[i * 3]? = some (.int .i64 p.1) ∧ ys[i * 3 + 1]? = some tv ∧ ys[i * 3 + 2]? = some (.int .i64 k) ∧ ks[i]? = some k ∧ PtsB W tv p.2
  | _, _ :: _, k :: _, ⟨tv, ys', e, h1, h2⟩, 0, q, hq => by
    simp only [List.getElem?_cons_zero, Option.some.injEq] at hq
    subst hq
    subst e
    exact ⟨tv, k, rfl, rfl, rfl, rfl, h1⟩
  | _, _ :: _, _ :: _, ⟨tv, ys', e, h1, h2⟩, i + 1, q, hq => by
    obtain ⟨tv', k', a1, a2, a3, a4, a5⟩ := h2.at i q (by simpa using hq)
    subst e
    refine ⟨tv', k', ?_, ?_, ?_, by simpa using a4, a5⟩
    · rw [show (i + 1) * 3 = i * 3 + 3 by omega]; simpa using a1
    · rw [show (i + 1) * 3 + 1 = i * 3 + 1 + 3 by omega]; simpa using a2
    · rw [show (i + 1) * 3 + 2 = i * 3 + 2 + 3 by omega]; simpa using a3
  | _, [], [], _, i, q, hq => by simp at hq
  | _, [], _ :: _, h, _, _, _ => h.elim
  | _, _ :: _, [], h, _, _, _ => h.elim
/-- The four rows mean what the lines said. -/
structure Means (W : World) (xs : Nat → List Value) (n : Nat → Nat) (st : St) : Prop where
  c : xs 0 = flatR st.d.classes ∧ n 0 = st.d.classes.length
  k : xs 1 = flatR st.d.kinds ∧ n 1 = st.d.kinds.length
  f : (∃ ks, LinesMean W (xs 2) st.d.folds ks) ∧ n 2 = st.d.folds.length
  d : LinesMean W (xs 3) st.d.decomps (st.lines.map (·.2)) ∧ n 3 = st.d.decomps.length
theorem Means.map {W W' : World} {xs : Nat → List Value} {n : Nat → Nat} {st : St} (h : Means W xs n st) (hm : ∀ tv ps, PtsB W tv ps → PtsB W' tv ps) : Means W' xs n st :=
  ⟨h.c, h.k, ⟨by obtain ⟨ks, hk⟩ := h.f.1; exact ⟨ks, hk.map hm⟩, h.f.2⟩, ⟨h.d.1.map hm, h.d.2⟩⟩
theorem PtsB.later {W W' : World} (hb : Below W.heap.size W W') {tv : Value} {ps : List Int} (h : PtsB W tv ps) : PtsB W' tv ps := by
  obtain ⟨b, off, cap, cs, e, h1, r⟩ := h
  exact ⟨b, off, cap, cs, e, (hb.block b (lt_of_block h1)).trans h1, r⟩
theorem Means.later {W W' : World} {xs : Nat → List Value} {n : Nat → Nat} {st : St} (h : Means W xs n st) (hb : Below W.heap.size W W') : Means W' xs n st := h.map fun _ _ => PtsB.later hb
end Go.Proofs.YtikpkjpnehkbfaaGreatDoor.Rf
