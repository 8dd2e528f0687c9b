/- The stable order, in plain Lean: rows whose parts are put elsewhere; what is merged is in order. -/
import Derived.RowKit
import Derived.Lib.Hide
namespace Go.Proofs.YtikpkjpnehkbfaaGreatDoor.Sb
set_option linter.unusedVariables false
variable {α : Type}

/-- What is done between a and b to a row: nothing lies elsewhere, nothing new comes in, and of things of one key the order stays. -/
structure Mv (key : α → Int) (a b : Nat) (l l' : List α) : Prop where
  len : l'.length = l.length
  out : ∀ t, t < a ∨ b ≤ t → l'[t]? = l[t]?
  sub : ∀ t x, a ≤ t → t < b → l'[t]? = some x → ∃ s, a ≤ s ∧ s < b ∧ l[s]? = some x
  keep : ∀ P : α → Bool, (∀ i j x y, a ≤ i → i < b → a ≤ j → j < b → l[i]? = some x → l[j]? = some y → P x = true → P y = true → key x = key y) → l'.filter P = l.filter P
theorem Mv.refl (key : α → Int) (a b : Nat) (l : List α) : Mv key a b l l := ⟨rfl, fun _ _ => rfl, fun t x h1 h2 h3 => ⟨t, h1, h2, h3⟩, fun _ _ => rfl⟩
theorem Mv.trans {key : α → Int} {a b : Nat} {l m n : List α} (h : Mv key a b l m) (k : Mv key a b m n) : Mv key a b l n := by
  refine ⟨k.len.trans h.len, fun t ht => (k.out t ht).trans (h.out t ht), fun t x h1 h2 h3 => ?_, fun P hP => ?_⟩
  · obtain ⟨s, s1, s2, s3⟩ := k.sub t x h1 h2 h3
    exact h.sub s x s1 s2 s3
  · rw [k.keep P (fun i j x y i1 i2 j1 j2 hx hy px py => ?_), h.keep P hP]
    obtain ⟨s, s1, s2, s3⟩ := h.sub i x i1 i2 hx
    obtain ⟨t, t1, t2, t3⟩ := h.sub j y j1 j2 hy
    exact hP s t x y s1 s2 t1 t2 s3 t3 px py
theorem Mv.wide {key : α → Int} {a b a' b' : Nat} {l m : List α} (h : Mv key a b l m) (ha : a' ≤ a) (hb : b ≤ b') : Mv key a' b' l m := by
  refine ⟨h.len, fun t ht => h.out t (by omega), fun t x h1 h2 h3 => ?_, fun P hP => h.keep P (fun i j x y i1 i2 j1 j2 => hP i j x y (by omega) (by omega) (by omega) (by omega))⟩
  by_cases hin : a ≤ t ∧ t < b
  · obtain ⟨s, s1, s2, s3⟩ := h.sub t x hin.1 hin.2 h3
    exact ⟨s, by omega, by omega, s3⟩
  · exact ⟨t, h1, h2, by rw [← h.out t (by omega)]; exact h3⟩
theorem get_block {P X Y S : List α} {t : Nat} {x : α} (h : (P ++ (Y ++ (X ++ S)))[t]? = some x) (h1 : P.length ≤ t) (h2 : t < P.length + X.length + Y.length) :
    ∃ s, P.length ≤ s ∧ s < P.length + X.length + Y.length ∧ (P ++ (X ++ (Y ++ S)))[s]? = some x := by
  rw [List.getElem?_append_right h1] at h
  by_cases hy : t - P.length < Y.length
  · rw [List.getElem?_append_left hy] at h
    refine ⟨t + X.length, by omega, by omega, ?_⟩
    rw [List.getElem?_append_right (by omega), List.getElem?_append_right (by omega), show t + X.length - P.length - X.length = t - P.length by omega, List.getElem?_append_left hy]
    exact h
  · rw [List.getElem?_append_right (by omega), List.getElem?_append_left (by omega)] at h
    refine ⟨t - Y.length, by omega, by omega, ?_⟩
    rw [List.getElem?_append_right (by omega), show t - Y.length - P.length = t - P.length - Y.length by omega, List.getElem?_append_left (by omega)]
    exact h
/-- Two blocks change places, where all of the second one is below all of the first one. -/
theorem Mv.block {key : α → Int} {a b : Nat} (P X Y S : List α) (ha : a ≤ P.length) (hb : P.length + X.length + Y.length ≤ b) (hlt : ∀ x ∈ X, ∀ y ∈ Y, key y < key x) :
    Mv key a b (P ++ (X ++ (Y ++ S))) (P ++ (Y ++ (X ++ S))) := by
  refine Mv.wide (a := P.length) (b := P.length + X.length + Y.length) ⟨by simp; omega, fun t ht => ?_, fun t x h1 h2 h3 => get_block h3 h1 h2, fun Q hQ => ?_⟩ ha hb
  · rcases ht with ht | ht
    · rw [List.getElem?_append_left ht, List.getElem?_append_left ht]
    · rw [List.getElem?_append_right (by omega), List.getElem?_append_right (by omega), List.getElem?_append_right (by omega), List.getElem?_append_right (by omega), List.getElem?_append_right (by omega), List.getElem?_append_right (by omega)]
      congr 1
      omega
  · simp only [List.filter_append]
    congr 1
    rw [← List.append_assoc, ← List.append_assoc]
    congr 1
    by_cases hx : X.filter Q = []
    · rw [hx]; simp
    · by_cases hy : Y.filter Q = []
      · rw [hy]; simp
      · exfalso
        obtain ⟨x, hx⟩ := List.exists_mem_of_ne_nil _ hx
        obtain ⟨y, hy⟩ := List.exists_mem_of_ne_nil _ hy
        rw [List.mem_filter] at hx hy
        obtain ⟨i, hi, ei⟩ := List.getElem_of_mem hx.1
        obtain ⟨j, hj, ej⟩ := List.getElem_of_mem hy.1
        have := hQ (P.length + i) (P.length + X.length + j) x y (by omega) (by omega) (by omega) (by omega)
          (by rw [List.getElem?_append_right (by omega), show P.length + i - P.length = i by omega, List.getElem?_append_left hi, ← ei]; exact List.getElem?_eq_getElem hi)
          (by rw [List.getElem?_append_right (by omega), List.getElem?_append_right (by omega), show P.length + X.length + j - P.length - X.length = j by omega, List.getElem?_append_left hj, ← ej]; exact List.getElem?_eq_getElem hj)
          hx.2 hy.2
        have := hlt x hx.1 y hy.1
        omega
/-- A row is in order between a and b. -/
def Srt (key : α → Int) (a b : Nat) (l : List α) : Prop := ∀ i j x y, a ≤ i → i < j → j < b → l[i]? = some x → l[j]? = some y → key x ≤ key y
theorem Srt.sub {key : α → Int} {a b a' b' : Nat} {l : List α} (h : Srt key a b l) (ha : a ≤ a') (hb : b' ≤ b) : Srt key a' b' l := fun i j x y h1 h2 h3 => h i j x y (by omega) h2 (by omega)
theorem Srt.same {key : α → Int} {a b : Nat} {l m : List α} (h : Srt key a b l) (he : ∀ t, a ≤ t → t < b → m[t]? = l[t]?) : Srt key a b m := fun i j x y h1 h2 h3 hx hy => h i j x y h1 h2 h3 (by rw [← he i h1 (by omega)]; exact hx) (by rw [← he j (by omega) h3]; exact hy)
theorem Srt.le {key : α → Int} {a b : Nat} {l : List α} (h : Srt key a b l) {i j : Nat} {x y : α} (h1 : a ≤ i) (h2 : i ≤ j) (h3 : j < b) (hx : l[i]? = some x) (hy : l[j]? = some y) : key x ≤ key y := by
  by_cases e : i = j
  · subst e; rw [hx] at hy; injection hy with hy; rw [hy]; exact Int.le_refl _
  · exact h i j x y h1 (by omega) h3 hx hy
theorem Srt.short (key : α → Int) {a b : Nat} (l : List α) (h : b ≤ a + 1) : Srt key a b l := fun i j x y h1 h2 h3 => by omega
/-- Two ordered stretches, one behind the other, all of the first one at most all of the second one. -/
theorem Srt.join {key : α → Int} {a m b : Nat} {l : List α} (h : Srt key a m l) (k : Srt key m b l) (hc : ∀ i j x y, a ≤ i → i < m → m ≤ j → j < b → l[i]? = some x → l[j]? = some y → key x ≤ key y) : Srt key a b l := fun i j x y h1 h2 h3 hx hy => by
  by_cases hj : j < m
  · exact h i j x y h1 h2 hj hx hy
  · by_cases hi : m ≤ i
    · exact k i j x y hi h2 h3 hx hy
    · exact hc i j x y h1 (by omega) (by omega) h3 hx hy

/-! ### a row cut -/
theorem cut_at {l : List α} {i : Nat} {x : α} (h : l[i]? = some x) : l = l.take i ++ x :: l.drop (i + 1) := by
  obtain ⟨hi, e⟩ := List.getElem?_eq_some_iff.1 h
  rw [← e, List.getElem_cons_drop, List.take_append_drop]
theorem exch_eq (P M S : List α) (x y : α) {i j : Nat} (hi : i = P.length) (hj : j = P.length + 1 + M.length) : ((P ++ (x :: (M ++ (y :: S)))).set i y).set j x = P ++ (y :: (M ++ (x :: S))) := by
  subst hi hj
  rw [List.set_append_right _ _ (Nat.le_refl _), Nat.sub_self, List.set_cons_zero, List.set_append_right _ _ (by omega), show P.length + 1 + M.length - P.length = M.length + 1 by omega, List.set_cons_succ, List.set_append_right _ _ (Nat.le_refl _), Nat.sub_self, List.set_cons_zero]
/-- Two neighbours that fall change places. -/
theorem Mv.swap {key : α → Int} {a b : Nat} {l : List α} {i : Nat} {x y : α} (hx : l[i]? = some x) (hy : l[i + 1]? = some y) (ha : a ≤ i) (hb : i + 1 < b) (hlt : key y < key x) : Mv key a b l ((l.set i y).set (i + 1) x) := by
  obtain ⟨hi, _⟩ := List.getElem?_eq_some_iff.1 hx
  have e1 := cut_at hx
  have hy' : (l.drop (i + 1))[0]? = some y := by rw [List.getElem?_drop]; exact hy
  have e2 := cut_at hy'
  rw [List.take_zero, List.nil_append] at e2
  have e : l = l.take i ++ ([x] ++ ([y] ++ (l.drop (i + 1)).drop 1)) := by
    conv => lhs; rw [e1, e2]
    rfl
  have hl : (l.take i).length = i := by rw [List.length_take]; omega
  generalize l.take i = P at *
  generalize (l.drop (i + 1)).drop 1 = S at *
  subst e
  rw [show P ++ ([x] ++ ([y] ++ S)) = P ++ (x :: ([] ++ (y :: S))) from rfl, exch_eq P [] S x y hl.symm (by simp [hl])]
  exact Mv.block P [x] [y] S (by omega) (by simp only [List.length_cons, List.length_nil]; omega) (fun u hu v hv => by
    rw [List.mem_singleton] at hu hv
    subst hu hv
    exact hlt)

/-! ### the sort by insertion -/
/-- The element at j is on its way down; what lies behind it, up to i, is above it. -/
structure Ins (key : α → Int) (a i j : Nat) (l : List α) : Prop where
  rest : ∀ p q x y, a ≤ p → p < q → q ≤ i → p ≠ j → q ≠ j → l[p]? = some x → l[q]? = some y → key x ≤ key y
  up : ∀ q x y, j < q → q ≤ i → l[j]? = some x → l[q]? = some y → key x ≤ key y
theorem Ins.start {key : α → Int} {a i : Nat} {l : List α} (h : Srt key a i l) : Ins key a i i l := ⟨fun p q x y h1 h2 h3 h4 h5 => h p q x y h1 h2 (by omega), fun q x y h1 h2 => by omega⟩
theorem Ins.done {key : α → Int} {a i j : Nat} {l : List α} (h : Ins key a i j l) (haj : a ≤ j) (hji : j ≤ i) (hs : j = a ∨ ∃ x y, l[j]? = some x ∧ l[j - 1]? = some y ∧ ¬ key x < key y) : Srt key a (i + 1) l := by
  intro p q x y h1 h2 h3 hx hy
  by_cases hp : p = j
  · subst hp; exact h.up q x y h2 (by omega) hx hy
  · by_cases hq : q = j
    · subst hq
      rcases hs with rfl | ⟨u, v, hu, hv, hn⟩
      · omega
      · rw [hy] at hu
        injection hu with hu
        subst hu
        by_cases hpj : p = q - 1
        · subst hpj; rw [hx] at hv; injection hv with hv; subst hv; omega
        · have := h.rest p (q - 1) x v h1 (by omega) (by omega) hp (by omega) hx hv
          omega
    · exact h.rest p q x y h1 h2 (by omega) hp hq hx hy
theorem set2_get {l : List α} {i : Nat} {x y : α} (hi : i + 1 < l.length) (t : Nat) : ((l.set i y).set (i + 1) x)[t]? = if t = i then some y else if t = i + 1 then some x else l[t]? := by
  rw [List.getElem?_set, List.getElem?_set, List.length_set]
  by_cases h1 : t = i
  · subst h1
    simp [show t < l.length by omega]
  · by_cases h2 : t = i + 1
    · subst h2
      simp [hi]
    · rw [if_neg (fun e => h2 e.symm), if_neg (fun e => h1 e.symm), if_neg h1, if_neg h2]
theorem Ins.step {key : α → Int} {a i j : Nat} {l : List α} {x y : α} (h : Ins key a i (j + 1) l) (haj : a ≤ j) (hji : j + 1 ≤ i) (hil : i < l.length) (hx : l[j]? = some x) (hy : l[j + 1]? = some y) (hlt : key y < key x) : Ins key a i j ((l.set j y).set (j + 1) x) := by
  have hg := set2_get (l := l) (i := j) (x := x) (y := y) (by omega)
  refine ⟨fun p q u v h1 h2 h3 h4 h5 hu hv => ?_, fun q u v h1 h2 hu hv => ?_⟩
  · rw [hg, if_neg h4] at hu
    rw [hg, if_neg h5] at hv
    by_cases hp : p = j + 1
    · subst hp
      rw [if_pos rfl] at hu
      rw [if_neg (by omega)] at hv
      injection hu with hu
      subst hu
      exact h.rest j q x v haj (by omega) h3 (by omega) (by omega) hx hv
    · rw [if_neg hp] at hu
      by_cases hq : q = j + 1
      · subst hq
        rw [if_pos rfl] at hv
        injection hv with hv
        subst hv
        exact h.rest p j u x h1 (by omega) (by omega) hp (by omega) hu hx
      · rw [if_neg hq] at hv
        exact h.rest p q u v h1 h2 h3 hp hq hu hv
  · rw [hg, if_pos rfl] at hu
    injection hu with hu
    subst hu
    rw [hg, if_neg (by omega)] at hv
    by_cases hq : q = j + 1
    · subst hq
      rw [if_pos rfl] at hv
      injection hv with hv
      subst hv
      omega
    · rw [if_neg hq] at hv
      exact h.up q y v (by omega) h2 hy hv

/-! ### merging -/
theorem three {l : List α} {a m b : Nat} (h1 : a ≤ m) (h2 : m ≤ b) (h3 : b ≤ l.length) : l = l.take a ++ ((l.take m).drop a ++ ((l.take b).drop m ++ l.drop b)) ∧ (l.take a).length = a ∧ ((l.take m).drop a).length = m - a ∧ ((l.take b).drop m).length = b - m := by
  refine ⟨?_, by simp; omega, by simp; omega, by simp; omega⟩
  have e1 : l.take m = l.take a ++ (l.take m).drop a := by
    conv => lhs; rw [← List.take_append_drop a (l.take m), List.take_take, Nat.min_eq_left h1]
  have e2 : l.take b = l.take m ++ (l.take b).drop m := by
    conv => lhs; rw [← List.take_append_drop m (l.take b), List.take_take, Nat.min_eq_left h2]
  conv => lhs; rw [← List.take_append_drop b l, e2, e1]
  simp only [List.append_assoc]
/-- The row whose stretches from a to m and from m to b have changed places. -/
def turn (a m b : Nat) (l : List α) : List α := l.take a ++ ((l.take b).drop m ++ ((l.take m).drop a ++ l.drop b))
theorem turn_get {l : List α} {a m b : Nat} (h1 : a ≤ m) (h2 : m ≤ b) (h3 : b ≤ l.length) (t : Nat) : (turn a m b l)[t]? = if t < a then l[t]? else if t < a + (b - m) then l[t + (m - a)]? else if t < b then l[t - (b - m)]? else l[t]? := by
  obtain ⟨e, l1, l2, l3⟩ := three h1 h2 h3
  have eg : ∀ t : Nat, l[t]? = (l.take a ++ ((l.take m).drop a ++ ((l.take b).drop m ++ l.drop b)))[t]? := fun t => by rw [← e]
  unfold turn
  by_cases c1 : t < a
  · rw [if_pos c1, List.getElem?_append_left (by omega), List.getElem?_take, if_pos c1]
  · rw [if_neg c1, List.getElem?_append_right (by omega)]
    by_cases c2 : t < a + (b - m)
    · rw [if_pos c2, List.getElem?_append_left (by omega), eg (t + (m - a)), List.getElem?_append_right (by omega), List.getElem?_append_right (by omega), List.getElem?_append_left (by omega)]
      congr 1
      omega
    · rw [if_neg c2, List.getElem?_append_right (by omega)]
      by_cases c3 : t < b
      · rw [if_pos c3, List.getElem?_append_left (by omega), eg (t - (b - m)), List.getElem?_append_right (by omega), List.getElem?_append_left (by omega)]
        congr 1
        omega
      · rw [if_neg c3, List.getElem?_append_right (by omega), eg t, List.getElem?_append_right (by omega), List.getElem?_append_right (by omega), List.getElem?_append_right (by omega)]
        congr 1
        omega
theorem turn_same {l : List α} {a m b : Nat} (h1 : a ≤ m) (h2 : m ≤ b) (h3 : b ≤ l.length) (h : a = m ∨ m = b) : turn a m b l = l := by
  refine List.ext_getElem? fun t => ?_
  rw [turn_get h1 h2 h3]
  rcases h with rfl | rfl
  · by_cases c1 : t < a
    · rw [if_pos c1]
    · rw [if_neg c1]
      by_cases c2 : t < a + (b - a)
      · rw [if_pos c2]; congr 1; omega
      · rw [if_neg c2]
        by_cases c3 : t < b
        · omega
        · rw [if_neg c3]
  · by_cases c1 : t < a
    · rw [if_pos c1]
    · rw [if_neg c1, if_neg (by omega)]
      by_cases c3 : t < m
      · rw [if_pos c3]; congr 1; omega
      · rw [if_neg c3]
theorem mem_seg {l : List α} {a b : Nat} {x : α} (h : x ∈ (l.take b).drop a) : ∃ i, a ≤ i ∧ i < b ∧ l[i]? = some x := by
  obtain ⟨i, hi⟩ := List.mem_iff_getElem?.1 h
  rw [List.getElem?_drop, List.getElem?_take] at hi
  split at hi
  · exact ⟨a + i, by omega, by assumption, hi⟩
  · cases hi
theorem Mv.turn {key : α → Int} {a b a' b' m : Nat} {l : List α} (h1 : a' ≤ m) (h2 : m ≤ b') (h3 : b' ≤ l.length) (ha : a ≤ a') (hb : b' ≤ b) (hlt : ∀ i j x y, a' ≤ i → i < m → m ≤ j → j < b' → l[i]? = some x → l[j]? = some y → key y < key x) : Mv key a b l (turn a' m b' l) := by
  obtain ⟨e, l1, l2, l3⟩ := three h1 h2 h3
  have := Mv.block (key := key) (a := a) (b := b) (l.take a') ((l.take m).drop a') ((l.take b').drop m) (l.drop b') (by omega) (by omega) (fun x hx y hy => by
    obtain ⟨i, i1, i2, i3⟩ := mem_seg hx
    obtain ⟨j, j1, j2, j3⟩ := mem_seg hy
    exact hlt i j x y i1 i2 j1 j2 i3 j3)
  rw [← e] at this
  exact this
theorem get_of {l : List α} {i : Nat} (h : i < l.length) : ∃ x, l[i]? = some x := ⟨_, List.getElem?_eq_getElem h⟩
/-- What the search has found: where the second half's elements fall below the first one's. -/
structure Found (key : α → Int) (a m b s : Nat) (l : List α) : Prop where
  lo : a ≤ s
  hi : s ≤ (a + b) / 2
  sm : s ≤ m
  em : m ≤ (a + b) / 2 + m - s
  eb : (a + b) / 2 + m - s ≤ b
  below : a < s → (a + b) / 2 + m - s < b → ∃ x y, l[s - 1]? = some x ∧ l[(a + b) / 2 + m - s]? = some y ∧ key x ≤ key y
  above : s < m → m < (a + b) / 2 + m - s → ∃ x y, l[s]? = some x ∧ l[(a + b) / 2 + m - s - 1]? = some y ∧ key y < key x
/-- Behind the turn: both halves consist of two ordered stretches, and all of the first half is at most all of the second one. -/
theorem Found.turned {key : α → Int} {a m b s : Nat} {l : List α} (h : Found key a m b s l) (ham : a ≤ m) (hmb : m ≤ b) (hbl : b ≤ l.length) (h1 : Srt key a m l) (h2 : Srt key m b l) :
    Mv key a b l (turn s m ((a + b) / 2 + m - s) l) ∧ Srt key a s (turn s m ((a + b) / 2 + m - s) l) ∧ Srt key s ((a + b) / 2) (turn s m ((a + b) / 2 + m - s) l) ∧
    Srt key ((a + b) / 2) ((a + b) / 2 + m - s) (turn s m ((a + b) / 2 + m - s) l) ∧ Srt key ((a + b) / 2 + m - s) b (turn s m ((a + b) / 2 + m - s) l) ∧
    ∀ i j x y, a ≤ i → i < (a + b) / 2 → (a + b) / 2 ≤ j → j < b → (turn s m ((a + b) / 2 + m - s) l)[i]? = some x → (turn s m ((a + b) / 2 + m - s) l)[j]? = some y → key x ≤ key y := by
  obtain ⟨q1, q2, q3, q4, q5, k6, k7⟩ := h
  have q6 := Lib.hid k6
  have q7 := Lib.hid k7
  clear k6 k7
  generalize hmid : (a + b) / 2 = mid at *
  generalize hend : mid + m - s = en at *
  have hmv : Mv key a b l (turn s m en l) := by
    refine Mv.turn q3 q4 (by omega) q1 q5 (fun i j x y i1 i2 j1 j2 hx hy => ?_)
    obtain ⟨u, v, hu, hv, hlt⟩ := q7.out (by omega) (by omega)
    have k1 := h1.le (i := s) (j := i) q1 i1 i2 hu hx
    have k2 := h2.le (i := j) (j := en - 1) j1 (by omega) (by omega) hy hv
    omega
  refine ⟨hmv, ?_⟩
  have hg : ∀ t : Nat, (turn s m en l)[t]? = if t < s then l[t]? else if t < mid then l[t + (m - s)]? else if t < en then l[t - (mid - s)]? else l[t]? := fun t => by
    rw [turn_get q3 q4 (Nat.le_trans q5 hbl), show en - m = mid - s by omega, show s + (mid - s) = mid by omega]
  generalize turn s m en l = r at *
  have g1 : ∀ t : Nat, t < s → r[t]? = l[t]? := fun t ht => by rw [hg, if_pos ht]
  have g2 : ∀ t : Nat, s ≤ t → t < mid → r[t]? = l[t + (m - s)]? := fun t h1 h2 => by rw [hg, if_neg (by omega), if_pos h2]
  have g3 : ∀ t : Nat, mid ≤ t → t < en → r[t]? = l[t - (mid - s)]? := fun t h1 h2 => by rw [hg, if_neg (by omega), if_neg (by omega), if_pos h2]
  have g4 : ∀ t : Nat, mid ≤ t → en ≤ t → r[t]? = l[t]? := fun t h1 h2 => by rw [hg, if_neg (by omega), if_neg (by omega), if_neg (by omega)]
  clear hg hmv
  refine ⟨(h1.sub (Nat.le_refl _) q3).same (fun t _ h => g1 t h), fun i j x y i1 ij jb hx hy => ?_, fun i j x y i1 ij jb hx hy => ?_, (h2.sub q4 (Nat.le_refl _)).same (fun t h _ => g4 t (by omega) h), fun i j x y i1 i2 j1 j2 hx hy => ?_⟩
  · rw [g2 i i1 (by omega)] at hx
    rw [g2 j (by omega) jb] at hy
    exact h2.le (by omega) (by omega) (by omega) hx hy
  · rw [g3 i i1 (by omega)] at hx
    rw [g3 j (by omega) jb] at hy
    exact h1.le (by omega) (by omega) (by omega) hx hy
  · by_cases hi : i < s
    · rw [g1 i hi] at hx
      by_cases hj : j < en
      · rw [g3 j j1 hj] at hy
        exact h1.le (i := i) (j := j - (mid - s)) (by omega) (by omega) (by omega) hx hy
      · rw [g4 j j1 (by omega)] at hy
        obtain ⟨u, v, hu, hv, hle⟩ := q6.out (by omega) (by omega)
        have k1 := h1.le (i := i) (j := s - 1) (by omega) (by omega) (by omega) hx hu
        have k2 := h2.le (i := en) (j := j) (by omega) (by omega) j2 hv hy
        omega
    · rw [g2 i (by omega) i2] at hx
      by_cases hj : j < en
      · rw [g3 j j1 hj] at hy
        obtain ⟨u, v, hu, hv, hlt⟩ := q7.out (by omega) (by omega)
        have k1 := h2.le (i := i + (m - s)) (j := en - 1) (by omega) (by omega) (by omega) hx hv
        have k2 := h1.le (i := s) (j := j - (mid - s)) (by omega) (by omega) (by omega) hu hy
        omega
      · rw [g4 j j1 (by omega)] at hy
        exact h2.le (i := i + (m - s)) (j := j) (by omega) (by omega) j2 hx hy
/-- Where the search stands, in the general case. -/
structure Sea (key : α → Int) (p s0 r0 lo hi : Nat) (l : List α) : Prop where
  h1 : s0 ≤ lo
  h2 : lo ≤ hi
  h3 : hi ≤ r0
  below : s0 < lo → ∃ x y, l[lo - 1]? = some x ∧ l[p - (lo - 1)]? = some y ∧ key x ≤ key y
  above : hi < r0 → ∃ x y, l[hi]? = some x ∧ l[p - hi]? = some y ∧ key y < key x
theorem Sea.start (key : α → Int) {p s0 r0 : Nat} (l : List α) (h : s0 ≤ r0) : Sea key p s0 r0 s0 r0 l := ⟨Nat.le_refl _, h, Nat.le_refl _, fun h => by omega, fun h => by omega⟩
theorem Sea.up {key : α → Int} {p s0 r0 lo hi c : Nat} {l : List α} {x y : α} (h : Sea key p s0 r0 lo hi l) (h1 : lo ≤ c) (h2 : c < hi) (hx : l[c]? = some x) (hy : l[p - c]? = some y) (hn : ¬ key y < key x) : Sea key p s0 r0 (c + 1) hi l :=
  ⟨by have := h.h1; omega, by omega, h.h3, fun _ => ⟨x, y, hx, hy, by omega⟩, h.above⟩
theorem Sea.down {key : α → Int} {p s0 r0 lo hi c : Nat} {l : List α} {x y : α} (h : Sea key p s0 r0 lo hi l) (h1 : lo ≤ c) (h2 : c < hi) (hx : l[c]? = some x) (hy : l[p - c]? = some y) (hn : key y < key x) : Sea key p s0 r0 lo c l :=
  ⟨h.h1, h1, by have := h.h3; omega, h.below, fun _ => ⟨x, y, hx, hy, hn⟩⟩
/-- From where to where is searched. -/
def seaLo (a m b : Nat) : Nat := if (a + b) / 2 < m then (a + b) / 2 + m - b else a
def seaHi (a m b : Nat) : Nat := if (a + b) / 2 < m then (a + b) / 2 else m
theorem sea_range {a m b : Nat} (h1 : a < m) (h2 : m < b) : a ≤ seaLo a m b ∧ seaLo a m b ≤ seaHi a m b ∧ seaHi a m b ≤ (a + b) / 2 ∧ seaHi a m b ≤ m ∧ ∀ c, seaLo a m b ≤ c → c < seaHi a m b → c < m ∧ m ≤ (a + b) / 2 + m - 1 - c ∧ (a + b) / 2 + m - 1 - c < b ∧ c ≤ (a + b) / 2 + m - 1 := by
  unfold seaLo seaHi
  split
  · refine ⟨by omega, by omega, by omega, by omega, fun c h1 h2 => by omega⟩
  · refine ⟨by omega, by omega, by omega, by omega, fun c h1 h2 => by omega⟩
theorem Sea.found {key : α → Int} {a m b s : Nat} {l : List α} (h1 : a < m) (h2 : m < b) (h : Sea key ((a + b) / 2 + m - 1) (seaLo a m b) (seaHi a m b) s s l) : Found key a m b s l := by
  obtain ⟨r1, r2, r3, r4, r5⟩ := sea_range h1 h2
  obtain ⟨q1, q2, q3, q4, q5⟩ := h
  refine ⟨by omega, by omega, by omega, by omega, ?_, fun k1 k2 => ?_, fun k1 k2 => ?_⟩
  · have : (a + b) / 2 + m - b ≤ seaLo a m b := by unfold seaLo; split <;> omega
    omega
  · have : seaLo a m b < s := by
      unfold seaLo at q1 ⊢
      split at q1
      · rw [if_pos (by assumption)]; omega
      · rw [if_neg (by assumption)]; omega
    obtain ⟨x, y, hx, hy, hle⟩ := q4 this
    exact ⟨x, y, hx, by rw [show (a + b) / 2 + m - s = (a + b) / 2 + m - 1 - (s - 1) by omega]; exact hy, hle⟩
  · have : s < seaHi a m b := by
      unfold seaHi at q3 ⊢
      split at q3
      · rw [if_pos (by assumption)]; omega
      · rw [if_neg (by assumption)]; omega
    obtain ⟨x, y, hx, hy, hlt⟩ := q5 this
    exact ⟨x, y, hx, by rw [show (a + b) / 2 + m - s - 1 = (a + b) / 2 + m - 1 - s by omega]; exact hy, hlt⟩

/-! ### one element alone ahead, or behind -/
theorem first_done {key : α → Int} {a b i : Nat} {l : List α} {x : α} (hx : l[a]? = some x) (hi1 : a + 1 ≤ i) (hi2 : i ≤ b) (hb : b ≤ l.length) (h : Srt key (a + 1) b l)
    (hlo : a + 1 < i → ∃ y, l[i - 1]? = some y ∧ key y < key x) (hhi : i < b → ∃ y, l[i]? = some y ∧ ¬ key y < key x) : Mv key a b l (turn a (a + 1) i l) ∧ Srt key a b (turn a (a + 1) i l) := by
  have hg := turn_get (l := l) (a := a) (m := a + 1) (b := i) (by omega) hi1 (by omega)
  refine ⟨Mv.turn (by omega) hi1 (by omega) (Nat.le_refl _) hi2 (fun p q u v p1 p2 q1 q2 hu hv => ?_), fun p q u v p1 pq q2 hu hv => ?_⟩
  · obtain rfl : p = a := by omega
    rw [hx] at hu
    injection hu with hu
    subst hu
    obtain ⟨y, hy, hlt⟩ := hlo (by omega)
    have := h.le (i := q) (j := i - 1) q1 (by omega) (by omega) hv hy
    omega
  · rw [hg] at hu hv
    rw [if_neg (by omega)] at hu hv
    by_cases hp : p < a + (i - (a + 1))
    · rw [if_pos hp] at hu
      by_cases hq : q < a + (i - (a + 1))
      · rw [if_pos hq] at hv
        exact h.le (by omega) (by omega) (by omega) hu hv
      · rw [if_neg hq] at hv
        by_cases hq2 : q < i
        · rw [if_pos hq2, show q - (i - (a + 1)) = a by omega, hx] at hv
          injection hv with hv
          subst hv
          obtain ⟨y, hy, hlt⟩ := hlo (by omega)
          have := h.le (i := p + (a + 1 - a)) (j := i - 1) (by omega) (by omega) (by omega) hu hy
          omega
        · rw [if_neg hq2] at hv
          exact h.le (i := p + (a + 1 - a)) (j := q) (by omega) (by omega) (by omega) hu hv
    · rw [if_neg hp] at hu
      rw [if_neg (by omega), if_neg (by omega)] at hv
      obtain ⟨y, hy, hn⟩ := hhi (by omega)
      have h2 := h.le (i := i) (j := q) (by omega) (by omega) q2 hy hv
      by_cases hp2 : p < i
      · rw [if_pos hp2, show p - (i - (a + 1)) = a by omega, hx] at hu
        injection hu with hu
        subst hu
        omega
      · rw [if_neg hp2] at hu
        exact h.le (i := p) (j := q) (by omega) (by omega) q2 hu hv
theorem first_step {a k : Nat} {l : List α} {u v : α} (ha : a ≤ k) (hk : k + 1 < l.length) (hu : (turn a (a + 1) (k + 1) l)[k]? = some u) (hv : (turn a (a + 1) (k + 1) l)[k + 1]? = some v) : ((turn a (a + 1) (k + 1) l).set k v).set (k + 1) u = turn a (a + 1) (k + 2) l := by
  have hg := turn_get (l := l) (a := a) (m := a + 1) (b := k + 1) (by omega) (by omega) (by omega)
  have hg2 := turn_get (l := l) (a := a) (m := a + 1) (b := k + 2) (by omega) (by omega) (by omega)
  have hlen : (turn a (a + 1) (k + 1) l).length = l.length := by unfold turn; simp; omega
  refine List.ext_getElem? fun t => ?_
  rw [set2_get (by omega), hg2]
  rw [hg] at hu hv
  by_cases h1 : t = k
  · subst h1
    rw [if_pos rfl, if_neg (by omega), if_pos (by omega), ← hv, if_neg (by omega), if_neg (by omega), if_neg (by omega)]
    congr 1
    omega
  · rw [if_neg h1]
    by_cases h2 : t = k + 1
    · subst h2
      rw [if_pos rfl, ← hu, if_neg (by omega), if_neg (by omega), if_pos (by omega), if_neg (by omega), if_neg (by omega), if_pos (by omega)]
      congr 1
      omega
    · rw [if_neg h2, hg]
      by_cases h3 : t < a
      · rw [if_pos h3, if_pos h3]
      · rw [if_neg h3, if_neg h3]
        by_cases h4 : t < k
        · rw [if_pos (by omega), if_pos (by omega)]
        · rw [if_neg (by omega), if_neg (by omega), if_neg (by omega), if_neg (by omega)]
theorem last_done {key : α → Int} {a m i : Nat} {l : List α} {x : α} (hx : l[m]? = some x) (hi1 : a ≤ i) (hi2 : i ≤ m) (hm : m + 1 ≤ l.length) (h : Srt key a m l)
    (hlo : a < i → ∃ y, l[i - 1]? = some y ∧ ¬ key x < key y) (hhi : i < m → ∃ y, l[i]? = some y ∧ key x < key y) : Mv key a (m + 1) l (turn i m (m + 1) l) ∧ Srt key a (m + 1) (turn i m (m + 1) l) := by
  have hg := turn_get (l := l) (a := i) (m := m) (b := m + 1) hi2 (by omega) hm
  refine ⟨Mv.turn hi2 (by omega) hm hi1 (Nat.le_refl _) (fun p q u v p1 p2 q1 q2 hu hv => ?_), fun p q u v p1 pq q2 hu hv => ?_⟩
  · obtain rfl : q = m := by omega
    rw [hx] at hv
    injection hv with hv
    subst hv
    obtain ⟨y, hy, hlt⟩ := hhi (by omega)
    have := h.le (i := i) (j := p) hi1 p1 p2 hy hu
    omega
  · rw [hg] at hu hv
    rw [show m + 1 - m = 1 by omega] at hu hv
    by_cases hp : p < i
    · rw [if_pos hp] at hu
      by_cases hq : q < i
      · rw [if_pos hq] at hv
        exact h.le p1 (by omega) (by omega) hu hv
      · rw [if_neg hq] at hv
        by_cases hq2 : q < i + 1
        · rw [if_pos hq2, show q + (m - i) = m by omega, hx] at hv
          injection hv with hv
          subst hv
          obtain ⟨y, hy, hn⟩ := hlo (by omega)
          have := h.le (i := p) (j := i - 1) p1 (by omega) (by omega) hu hy
          omega
        · rw [if_neg hq2, if_pos q2] at hv
          exact h.le (i := p) (j := q - 1) p1 (by omega) (by omega) hu hv
    · rw [if_neg hp] at hu
      rw [if_neg (by omega), if_neg (by omega), if_pos q2] at hv
      by_cases hp2 : p < i + 1
      · rw [if_pos hp2, show p + (m - i) = m by omega, hx] at hu
        injection hu with hu
        subst hu
        obtain ⟨y, hy, hlt⟩ := hhi (by omega)
        have := h.le (i := i) (j := q - 1) hi1 (by omega) (by omega) hy hv
        omega
      · rw [if_neg hp2, if_pos (by omega)] at hu
        exact h.le (i := p - 1) (j := q - 1) (by omega) (by omega) (by omega) hu hv
theorem last_step {k m : Nat} {l : List α} {u v : α} (hk : k + 1 ≤ m) (hm : m + 1 ≤ l.length) (hu : (turn (k + 1) m (m + 1) l)[k]? = some u) (hv : (turn (k + 1) m (m + 1) l)[k + 1]? = some v) : ((turn (k + 1) m (m + 1) l).set k v).set (k + 1) u = turn k m (m + 1) l := by
  have hg := turn_get (l := l) (a := k + 1) (m := m) (b := m + 1) (by omega) (by omega) (by omega)
  have hg2 := turn_get (l := l) (a := k) (m := m) (b := m + 1) (by omega) (by omega) (by omega)
  have hlen : (turn (k + 1) m (m + 1) l).length = l.length := by unfold turn; simp; omega
  refine List.ext_getElem? fun t => ?_
  rw [set2_get (by omega), hg2]
  rw [hg] at hu hv
  rw [hg, ← hu, ← hv]
  repeat' split
  all_goals first | rfl | (exfalso; omega) | (congr 1; omega)
/-! ### blocks that change places -/
structure Exd (x y n : Nat) (l l' : List α) : Prop where
  len : l'.length = l.length
  get : ∀ t, l'[t]? = if x ≤ t ∧ t < x + n then l[t + (y - x)]? else if y ≤ t ∧ t < y + n then l[t - (y - x)]? else l[t]?
theorem Exd.zero (x y : Nat) (l : List α) : Exd x y 0 l l := ⟨rfl, fun t => by rw [if_neg (by omega), if_neg (by omega)]⟩
theorem Exd.step {x y n : Nat} {l l' : List α} {u v : α} (h : Exd x y n l l') (hd : x + n < y) (hl : y + n < l.length) (hu : l'[x + n]? = some u) (hv : l'[y + n]? = some v) : Exd x y (n + 1) l ((l'.set (x + n) v).set (y + n) u) := by
  refine ⟨by simp [h.len], fun t => ?_⟩
  have hlen := h.len
  rw [List.getElem?_set, List.getElem?_set, List.length_set]
  rw [h.get, if_neg (by omega), if_neg (by omega)] at hu
  rw [h.get, if_neg (by omega), if_neg (by omega)] at hv
  rw [h.get, ← hu, ← hv, hlen]
  repeat' split
  all_goals first | rfl | (exfalso; omega) | (congr 1; omega)
theorem Exd.all {m i : Nat} {l l' : List α} (h : Exd (m - i) m i l l') (hi : i ≤ m) (hl : m + i ≤ l.length) : l' = turn (m - i) m (m + i) l := by
  refine List.ext_getElem? fun t => ?_
  rw [h.get, turn_get (by omega) (by omega) hl]
  repeat' split
  all_goals first | rfl | (exfalso; omega) | (congr 1; omega)
theorem Exd.left {m i j : Nat} {l l' : List α} (h : Exd (m - i) m j l l') (hi : i ≤ m) (hj : j < i) (hl : m + j ≤ l.length) : turn (m - (i - j)) m (m + j) l' = turn (m - i) m (m + j) l := by
  refine List.ext_getElem? fun t => ?_
  have hlen := h.len
  rw [turn_get (by omega) (by omega) (by omega), turn_get (by omega) (by omega) hl, h.get, h.get, h.get]
  repeat' split
  all_goals first | rfl | (exfalso; omega) | (congr 1; omega)
theorem Exd.right {m i j : Nat} {l l' : List α} (h : Exd (m - i) (m + j - i) i l l') (hi : i ≤ m) (hj : i < j) (hl : m + j ≤ l.length) : turn (m - i) m (m + (j - i)) l' = turn (m - i) m (m + j) l := by
  refine List.ext_getElem? fun t => ?_
  have hlen := h.len
  rw [turn_get (by omega) (by omega) (by omega), turn_get (by omega) (by omega) hl, h.get, h.get, h.get]
  repeat' split
  all_goals first | rfl | (exfalso; omega) | (congr 1; omega)
theorem turn_length {a m b : Nat} {l : List α} (h1 : a ≤ m) (h2 : m ≤ b) (h3 : b ≤ l.length) : (turn a m b l).length = l.length := by
  unfold turn
  simp
  omega

/-! ### merged -/
/-- Both halves put in order: the whole is. -/
theorem merged {key : α → Int} {a mid b : Nat} {l r1 r2 : List α} (ham : a ≤ mid) (hmb : mid ≤ b) (hc : ∀ i j x y, a ≤ i → i < mid → mid ≤ j → j < b → l[i]? = some x → l[j]? = some y → key x ≤ key y)
    (h1 : Mv key a mid l r1) (s1 : Srt key a mid r1) (h2 : Mv key mid b r1 r2) (s2 : Srt key mid b r2) : Mv key a b l r2 ∧ Srt key a b r2 := by
  refine ⟨(h1.wide (Nat.le_refl _) hmb).trans (h2.wide ham (Nat.le_refl _)), Srt.join (s1.same (fun t _ ht => h2.out t (.inl ht))) s2 (fun i j x y i1 i2 j1 j2 hx hy => ?_)⟩
  rw [h2.out i (.inl i2)] at hx
  obtain ⟨p, p1, p2, p3⟩ := h1.sub i x i1 i2 hx
  obtain ⟨q, q1, q2, q3⟩ := h2.sub j y j1 j2 hy
  rw [h1.out q (.inr q1)] at q3
  exact hc p q x y p1 p2 q1 q2 p3 q3

/-! ### blocks of one size -/
theorem mult_gap {bs p a : Nat} (h1 : bs ∣ p) (h2 : bs ∣ a) (h : p < a) : p + bs ≤ a := by
  obtain ⟨x, rfl⟩ := h1
  obtain ⟨y, rfl⟩ := h2
  have hxy : x < y := Nat.lt_of_mul_lt_mul_left h
  have := Nat.mul_le_mul_left bs hxy
  rw [Nat.mul_succ] at this
  exact this
/-- The blocks ahead of a place are in order. -/
def Ahd (key : α → Int) (bs a : Nat) (l : List α) : Prop := bs ∣ a ∧ ∀ p, bs ∣ p → p < a → Srt key p (p + bs) l
/-- All blocks are, the last one may be short; from a place on. -/
def Tl (key : α → Int) (bs a n : Nat) (l : List α) : Prop := ∀ p, bs ∣ p → a ≤ p → Srt key p (min (p + bs) n) l
theorem Ahd.zero (key : α → Int) (bs : Nat) (l : List α) : Ahd key bs 0 l := ⟨Nat.dvd_zero _, fun p _ h => by omega⟩
theorem Ahd.step {key : α → Int} {bs a : Nat} {l l' : List α} (h : Ahd key bs a l) (hm : Mv key a (a + bs) l l') (hs : Srt key a (a + bs) l') (hb : 0 < bs) : Ahd key bs (a + bs) l' := by
  refine ⟨Nat.dvd_add h.1 (Nat.dvd_refl _), fun p hp hlt => ?_⟩
  by_cases hpa : p < a
  · have := mult_gap hp h.1 hpa
    exact (h.2 p hp hpa).same (fun t _ ht => hm.out t (.inl (by omega)))
  · by_cases e : p = a
    · rw [e]; exact hs
    · have := mult_gap h.1 hp (by omega)
      omega
theorem Ahd.done {key : α → Int} {bs a n : Nat} {l l' : List α} (h : Ahd key bs a l) (hm : Mv key a n l l') (hs : Srt key a n l') (hn : n < a + bs) (han : a ≤ n) : Tl key bs 0 n l' := fun p hp _ => by
  by_cases hpa : p < a
  · have := mult_gap hp h.1 hpa
    rw [Nat.min_eq_left (by omega)]
    exact (h.2 p hp hpa).same (fun t _ ht => hm.out t (.inl (by omega)))
  · by_cases e : p = a
    · rw [e, Nat.min_eq_right (by omega)]; exact hs
    · have := mult_gap h.1 hp (by omega)
      exact Srt.short key l' (by omega)
theorem Tl.on {key : α → Int} {bs a a' n e : Nat} {l l' : List α} (h : Tl key bs a n l) (ha : a ≤ a') (he : e ≤ a') {b : Nat} (hm : Mv key b e l l') : Tl key bs a' n l' := fun p hp hap => (h p hp (by omega)).same (fun t h1 _ => hm.out t (.inr (by omega)))
/-- Two neighbouring blocks that are to be merged. -/
theorem Tl.pair {key : α → Int} {bs a n : Nat} {l : List α} (h : Tl key bs a n l) (ha : bs ∣ a) (hn : a + 2 * bs ≤ n) : Srt key a (a + bs) l ∧ Srt key (a + bs) (a + 2 * bs) l := by
  have h1 := h a ha (Nat.le_refl _)
  have h2 := h (a + bs) (Nat.dvd_add ha (Nat.dvd_refl _)) (by omega)
  rw [Nat.min_eq_left (by omega)] at h1
  rw [Nat.min_eq_left (by omega), show a + bs + bs = a + 2 * bs by omega] at h2
  exact ⟨h1, h2⟩
theorem Tl.last {key : α → Int} {bs a n : Nat} {l : List α} (h : Tl key bs a n l) (ha : bs ∣ a) (hn : n < a + 2 * bs) (hm : a + bs < n) : Srt key a (a + bs) l ∧ Srt key (a + bs) n l := by
  have h1 := h a ha (Nat.le_refl _)
  have h2 := h (a + bs) (Nat.dvd_add ha (Nat.dvd_refl _)) (by omega)
  rw [Nat.min_eq_left (by omega)] at h1
  rw [Nat.min_eq_right (by omega)] at h2
  exact ⟨h1, h2⟩
theorem Tl.single {key : α → Int} {bs a n : Nat} {l : List α} (h : Tl key bs a n l) (ha : bs ∣ a) (hm : n ≤ a + bs) : Srt key a n l := by
  have h1 := h a ha (Nat.le_refl _)
  rw [Nat.min_eq_right (by omega)] at h1
  exact h1
theorem Tl.full {key : α → Int} {bs n : Nat} {l : List α} (h : Tl key bs 0 n l) (hm : n ≤ bs) : Srt key 0 n l := h.single (Nat.dvd_zero _) (by omega)
theorem dvd_two {bs a : Nat} (h : 2 * bs ∣ a) : bs ∣ a := Nat.dvd_trans (Nat.dvd_mul_left bs 2) h
end Go.Proofs.YtikpkjpnehkbfaaGreatDoor.Sb
