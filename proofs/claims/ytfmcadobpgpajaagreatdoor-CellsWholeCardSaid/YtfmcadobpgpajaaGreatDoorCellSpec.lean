/- Cells, in plain Lean: what is joined, where edges lie, the cells; what the reference says of two units. -/
import Derived.Test.YtfmcadobpgpajaaGreatDoorBPlain
import Derived.Test.YtfmcadobpgpajaaGreatDoorCellUtf
namespace Go.Proofs.YtfmcadobpgpajaaGreatDoor.Cl
set_option linter.unusedVariables false
open Go Go.Lib Go.Proofs.YtfmcadobpgpajaaGreatDoor.Sp Go.Proofs.YtfmcadobpgpajaaGreatDoor.Ut

/-! ### what the program asks -/
def hang (r : Int) : Int := if 4352 ≤ r ∧ r ≤ 4370 then 1 else if 4449 ≤ r ∧ r ≤ 4469 then 2 else if 4520 ≤ r ∧ r ≤ 4546 then 3 else if r < 44032 ∨ 55203 < r then 0 else if (r - 44032) % 28 = 0 then 4 else 5
def aloneB (D : PD) (r w : Int) : Bool := (r == 65533 && w == 1) || r == 13 || r == 10 || kindOf D r == 5
def hangJ (x y : Int) : Bool := if x = 1 then (y != 0 && y != 3) else if x = 2 ∨ x = 4 then (y == 2 || y == 3) else if x = 3 ∨ x = 5 then y == 3 else false
def joinB (D : PD) (a v b w : Int) : Bool :=
  if a = 13 ∧ b = 10 then true
  else if aloneB D a v = true ∨ aloneB D b w = true then false
  else if kindOf D b = 3 ∨ kindOf D b = 6 ∨ 0 < classOf D b ∨ kindOf D a = 6 then true
  else hangJ (hang a) (hang b)
/-- Are the unit that ends at a byte and the one that begins there of one cell? -/
def jo (D : PD) (l : Bytes) (at_ : Nat) : Bool := joinB D ((decodeLastL (l.take at_)).1 : Nat) ((decodeLastL (l.take at_)).2 : Nat) ((decodeL (l.drop at_)).1 : Nat) ((decodeL (l.drop at_)).2 : Nat)
/-- No unit lies over a byte's beginning. -/
def unitB (l : Bytes) (at_ : Nat) : Bool := (List.range at_).all fun y => !(decide (at_ < y + 4) && decide (1 < wid l y) && decide (at_ < y + wid l y))
theorem unit_iff {l : Bytes} {at_ : Nat} (h : at_ ≤ l.length) : unitB l at_ = true ↔ Bd l at_ := by
  rw [bd_iff l at_ h]
  unfold unitB
  rw [List.all_eq_true]
  constructor
  · intro ha y hy h4 hw
    have := ha y (List.mem_range.2 hy)
    simp only [Bool.not_eq_true', Bool.and_eq_false_iff, decide_eq_false_iff_not] at this
    omega
  · intro ha y hy
    have hy := List.mem_range.1 hy
    simp only [Bool.not_eq_true', Bool.and_eq_false_iff, decide_eq_false_iff_not]
    by_cases h4 : at_ < y + 4
    · by_cases hw : 1 < wid l y
      · have := ha y hy h4 hw
        omega
      · exact .inl (.inr hw)
    · exact .inl (.inl h4)
/-- Does a cell begin or end at a byte of a text (that is not empty)? -/
def edgeB (D : PD) (l : Bytes) (at_ : Nat) : Bool := at_ == 0 || at_ == l.length || (unitB l at_ && !jo D l at_)
def edges (D : PD) (l : Bytes) : List Nat := if l = [] then [] else (List.range (l.length + 1)).filter (edgeB D l)
/-- The row of neighbours. -/
def pairs {α : Type} (l : List α) : List (α × α) := l.zip l.tail
def cells (D : PD) (l : Bytes) : List (Nat × Nat) := pairs (edges D l)
def edgeAt (D : PD) (l : Bytes) (at_ : Int) : Bool := decide (l ≠ []) && decide (0 ≤ at_) && decide (at_ ≤ l.length) && edgeB D l at_.toNat

/-! ### rows of neighbours -/
theorem pairs_snoc {α : Type} : ∀ (l : List α) (a b : α), pairs (l ++ [a] ++ [b]) = pairs (l ++ [a]) ++ [(a, b)]
  | [], a, b => rfl
  | x :: l, a, b => by
    cases l with
    | nil => rfl
    | cons y l =>
      have ih := pairs_snoc (y :: l) a b
      simp only [pairs, List.cons_append, List.tail_cons, List.zip_cons_cons] at ih ⊢
      rw [ih]
theorem pairs_cons {α : Type} (a b : α) (l : List α) : pairs (a :: b :: l) = (a, b) :: pairs (b :: l) := rfl
theorem pairs_prefix {α : Type} : ∀ (l m : List α), pairs l <+: pairs (l ++ m)
  | [], _ => List.nil_prefix
  | [a], _ => List.nil_prefix
  | a :: b :: l, m => by
    rw [List.cons_append, List.cons_append, pairs_cons, pairs_cons]
    exact List.cons_prefix_cons.2 ⟨rfl, pairs_prefix (b :: l) m⟩
theorem pairs_suffix {α : Type} : ∀ (m l : List α), pairs l <:+ pairs (m ++ l)
  | [], l => List.suffix_refl _
  | a :: m, l => by
    refine List.IsSuffix.trans (pairs_suffix m l) ?_
    cases h : m ++ l with
    | nil => rw [List.cons_append, h]; exact List.nil_suffix
    | cons b t => rw [List.cons_append, h, pairs_cons]; exact List.suffix_cons _ _
theorem pairs_length {α : Type} (l : List α) : (pairs l).length = l.length - 1 := by
  unfold pairs
  rw [List.length_zip, List.length_tail]
  omega

/-! ### from one edge to the next -/
theorem range_gap (p : Nat → Bool) (a : Nat) : ∀ b, a < b → (∀ y, a < y → y < b → p y = false) → (List.range (b + 1)).filter p = (List.range (a + 1)).filter p ++ (if p b = true then [b] else [])
  | 0, h, _ => by omega
  | b + 1, h, hg => by
    rw [List.range_succ, List.filter_append]
    have e : (List.range (b + 1)).filter p = (List.range (a + 1)).filter p := by
      by_cases hab : a = b
      · rw [hab]
      · rw [range_gap p a b (by omega) (fun y h1 h2 => hg y h1 (by omega)), if_neg (by rw [hg b (by omega) (by omega)]; decide), List.append_nil]
    rw [e]
    congr 1
    simp only [List.filter_cons, List.filter_nil]
theorem edge_zero (D : PD) (l : Bytes) : edgeB D l 0 = true := by simp [edgeB]
theorem edge_len (D : PD) (l : Bytes) : edgeB D l l.length = true := by simp [edgeB]
/-- Edges up to a byte. -/
def upto (D : PD) (l : Bytes) (e : Nat) : List Nat := (List.range (e + 1)).filter (edgeB D l)
theorem upto_len {D : PD} {l : Bytes} (h : l ≠ []) : upto D l l.length = edges D l := by unfold upto edges; rw [if_neg h]
theorem upto_zero (D : PD) (l : Bytes) : upto D l 0 = [0] := by unfold upto; simp [List.range_succ, edge_zero]
/-- e is the next edge behind a. -/
def Next (D : PD) (l : Bytes) (a e : Nat) : Prop := a < e ∧ e ≤ l.length ∧ edgeB D l e = true ∧ ∀ y, a < y → y < e → edgeB D l y = false
theorem upto_next {D : PD} {l : Bytes} {a e : Nat} (h : Next D l a e) : upto D l e = upto D l a ++ [e] := by
  obtain ⟨h1, _, h3, h4⟩ := h
  unfold upto
  rw [range_gap _ a e h1 h4, if_pos h3]
theorem upto_end {D : PD} {l : Bytes} {a : Nat} (h : edgeB D l a = true) : ∃ m, upto D l a = m ++ [a] := by
  unfold upto
  rw [List.range_succ, List.filter_append]
  exact ⟨_, by simp [h]; rfl⟩
theorem upto_prefix {D : PD} {l : Bytes} {a : Nat} (h : a ≤ l.length) : upto D l a <+: upto D l l.length := by
  unfold upto
  obtain ⟨k, hk⟩ : ∃ k, l.length = a + k := ⟨l.length - a, by omega⟩
  have e : List.range (l.length + 1) = List.range (a + 1) ++ (List.range k).map (fun x => a + 1 + x) := by rw [show l.length + 1 = (a + 1) + k by omega, List.range_add]
  rw [e, List.filter_append]
  exact List.prefix_append _ _
theorem cells_next {D : PD} {l : Bytes} {a e : Nat} (ha : edgeB D l a = true) (h : Next D l a e) : pairs (upto D l e) = pairs (upto D l a) ++ [(a, e)] := by
  obtain ⟨m, hm⟩ := upto_end ha
  rw [upto_next h, hm, pairs_snoc]
theorem cells_prefix {D : PD} {l : Bytes} {a : Nat} (hl : l ≠ []) (h : a ≤ l.length) : pairs (upto D l a) <+: cells D l := by
  obtain ⟨t, ht⟩ := upto_prefix (D := D) h
  unfold cells
  rw [← upto_len hl, ← ht]
  exact pairs_prefix _ _
/-- Edges from a byte on. -/
def from_ (D : PD) (l : Bytes) (a : Nat) : List Nat := (List.range' a (l.length + 1 - a)).filter (edgeB D l)
theorem from_zero {D : PD} {l : Bytes} (h : l ≠ []) : from_ D l 0 = edges D l := by unfold from_ edges; rw [if_neg h, List.range_eq_range']; rfl
theorem from_len (D : PD) (l : Bytes) : from_ D l l.length = [l.length] := by
  unfold from_
  rw [show l.length + 1 - l.length = 1 by omega]
  simp [List.range'_succ, edge_len]
theorem from_step {D : PD} {l : Bytes} {a : Nat} (h : a ≤ l.length) : from_ D l a = (if edgeB D l a = true then [a] else []) ++ from_ D l (a + 1) := by
  unfold from_
  rw [show l.length + 1 - a = (l.length + 1 - (a + 1)) + 1 by omega, List.range'_succ, List.filter_cons]
  split <;> simp_all
theorem from_gap {D : PD} {l : Bytes} {e : Nat} (he : e ≤ l.length) : ∀ k a, e - a = k → a ≤ e → (∀ y, a ≤ y → y < e → edgeB D l y = false) → from_ D l a = from_ D l e
  | 0, a, h, ha, _ => by rw [show a = e by omega]
  | k + 1, a, h, ha, hg => by
    rw [from_step (by omega), if_neg (by rw [hg a (Nat.le_refl _) (by omega)]; decide), List.nil_append]
    exact from_gap he k (a + 1) (by omega) (by omega) (fun y h1 h2 => hg y (by omega) h2)
theorem from_next {D : PD} {l : Bytes} {a e : Nat} (ha : edgeB D l a = true) (h : Next D l a e) : from_ D l a = a :: from_ D l e := by
  obtain ⟨h1, h2, _, h4⟩ := h
  rw [from_step (by omega), if_pos ha, from_gap h2 _ (a + 1) rfl (by omega) (fun y h1 h2 => h4 y (by omega) h2)]
  rfl
theorem from_head {D : PD} {l : Bytes} {e : Nat} (h : e ≤ l.length) (he : edgeB D l e = true) : ∃ t, from_ D l e = e :: t := by
  rw [from_step h, if_pos he]
  exact ⟨_, rfl⟩
theorem back_next {D : PD} {l : Bytes} {a e : Nat} (ha : edgeB D l a = true) (h : Next D l a e) : (pairs (from_ D l a)).reverse = (pairs (from_ D l e)).reverse ++ [(a, e)] := by
  obtain ⟨t, ht⟩ := from_head h.2.1 h.2.2.1
  rw [from_next ha h, ht, pairs_cons, List.reverse_cons]
theorem from_suffix {D : PD} {l : Bytes} {a : Nat} (hl : l ≠ []) (h : a ≤ l.length) : from_ D l a <:+ edges D l := by
  rw [← from_zero hl]
  unfold from_
  refine List.IsSuffix.filter _ ⟨List.range' 0 a, ?_⟩
  rw [show l.length + 1 - 0 = a + (l.length + 1 - a) by omega, ← List.range'_append_1, Nat.zero_add]
theorem back_prefix {D : PD} {l : Bytes} {a : Nat} (hl : l ≠ []) (h : a ≤ l.length) : (pairs (from_ D l a)).reverse <+: (cells D l).reverse := by
  obtain ⟨t, ht⟩ := from_suffix (D := D) hl h
  unfold cells
  rw [← ht]
  exact List.reverse_prefix.2 (pairs_suffix _ _)
theorem cells_nil (D : PD) : cells D [] = [] := rfl
theorem cells_length (D : PD) (l : Bytes) : (cells D l).length ≤ l.length := by
  unfold cells
  rw [pairs_length]
  unfold edges
  split
  · simp
  · have := List.length_filter_le (edgeB D l) (List.range (l.length + 1))
    rw [List.length_range] at this
    omega

/-! ### edges and units -/
theorem edge_in {D : PD} {l : Bytes} {at_ : Nat} (h0 : 0 < at_) (h1 : at_ < l.length) : edgeB D l at_ = (unitB l at_ && !jo D l at_) := by
  unfold edgeB
  rw [beq_eq_false_iff_ne.2 (by omega), beq_eq_false_iff_ne.2 (by omega)]
  rfl
theorem edge_bd {D : PD} {l : Bytes} {at_ : Nat} (h1 : at_ ≤ l.length) (h : edgeB D l at_ = true) : Bd l at_ := by
  by_cases h0 : at_ = 0
  · subst h0; exact .zero
  · by_cases hl : at_ = l.length
    · rw [hl]; exact Bd.full l
    · rw [edge_in (by omega) (by omega), Bool.and_eq_true] at h
      exact (unit_iff h1).1 h.1
/-- Between a unit's beginning and its end there is no edge. -/
theorem gap {D : PD} {l : Bytes} {x : Nat} (hb : Bd l x) (hx : x < l.length) : ∀ y, x < y → y < x + wid l x → edgeB D l y = false := by
  intro y h1 h2
  have hle := wid_le hx
  rw [edge_in (by omega) (by omega)]
  cases hu : unitB l y with
  | false => rfl
  | true =>
    have := ((unit_iff (by omega)).1 hu).over x h1 (by omega)
    omega
theorem edge_unit {D : PD} {l : Bytes} {x : Nat} (hb : Bd l x) (hx : x < l.length) (h0 : 0 < x) : edgeB D l x = !jo D l x := by
  rw [edge_in h0 hx, (unit_iff (by omega)).2 hb, Bool.true_and]

/-! ### the reference's words -/
def what (D : PD) (r : Int) (bad : Bool) : Int :=
  if bad = true ∨ r = 13 ∨ r = 10 ∨ kindOf D r = 5 then 1
  else if 4352 ≤ r ∧ r ≤ 4370 then 2 else if 4449 ≤ r ∧ r ≤ 4469 then 3 else if 4520 ≤ r ∧ r ≤ 4546 then 4
  else if 44032 ≤ r ∧ r ≤ 55203 ∧ (r - 44032) % 28 = 0 then 5 else if 44032 ≤ r ∧ r ≤ 55203 then 6 else 0
def hangE (x y : Int) : Bool := if x = 2 ∧ (y = 2 ∨ y = 3 ∨ y = 5 ∨ y = 6) then false else if (x = 3 ∨ x = 5) ∧ (y = 3 ∨ y = 4) then false else if (x = 4 ∨ x = 6) ∧ y = 4 then false else true
def edgeR (D : PD) (a : Int) (abad : Bool) (b : Int) (bbad : Bool) : Bool :=
  if a = 13 ∧ b = 10 then false
  else if what D a abad = 1 ∨ what D b bbad = 1 then true
  else if kindOf D b = 3 ∨ kindOf D b = 6 ∨ 0 < classOf D b then false
  else if kindOf D a = 6 then false
  else hangE (what D a abad) (what D b bbad)
theorem what_one (D : PD) (r : Int) (bad : Bool) : what D r bad = 1 ↔ (bad = true ∨ r = 13 ∨ r = 10 ∨ kindOf D r = 5) := by
  unfold what
  constructor
  · intro h
    split at h
    · assumption
    · exfalso
      repeat' split at h
      all_goals omega
  · intro h; rw [if_pos h]
theorem alone_iff (D : PD) (r w : Int) : aloneB D r w = true ↔ what D r (r == 65533 && w == 1) = 1 := by
  rw [what_one]
  unfold aloneB
  simp only [Bool.or_eq_true, beq_iff_eq, or_assoc]
theorem what_hang {D : PD} {r : Int} {bad : Bool} (h : what D r bad ≠ 1) : what D r bad = (if hang r = 0 then 0 else hang r + 1) := by
  have h' := (not_congr (what_one D r bad)).1 h
  unfold what hang
  rw [if_neg h']
  by_cases h1 : 4352 ≤ r ∧ r ≤ 4370
  · simp [h1]
  · by_cases h2 : 4449 ≤ r ∧ r ≤ 4469
    · simp [h1, h2]
    · by_cases h3 : 4520 ≤ r ∧ r ≤ 4546
      · simp [h1, h2, h3]
      · by_cases h4 : r < 44032 ∨ 55203 < r
        · rw [if_neg h1, if_neg h2, if_neg h3, if_neg h1, if_neg h2, if_neg h3, if_pos h4, if_pos rfl, if_neg (by omega), if_neg (by omega)]
        · by_cases h5 : (r - 44032) % 28 = 0
          · rw [if_neg h1, if_neg h2, if_neg h3, if_neg h1, if_neg h2, if_neg h3, if_neg h4, if_pos h5, if_pos (by omega)]; rfl
          · rw [if_neg h1, if_neg h2, if_neg h3, if_neg h1, if_neg h2, if_neg h3, if_neg h4, if_neg h5, if_neg (by omega), if_pos (by omega)]; rfl
theorem hang_cases (r : Int) : hang r = 0 ∨ hang r = 1 ∨ hang r = 2 ∨ hang r = 3 ∨ hang r = 4 ∨ hang r = 5 := by
  unfold hang
  repeat' split
  all_goals simp
/-- The program's word and the reference's are each other's opposite. -/
theorem edge_join (D : PD) (a v b w : Int) : edgeR D a (a == 65533 && v == 1) b (b == 65533 && w == 1) = !joinB D a v b w := by
  unfold edgeR joinB
  by_cases h1 : a = 13 ∧ b = 10
  · rw [if_pos h1, if_pos h1]; rfl
  · rw [if_neg h1, if_neg h1]
    by_cases h2 : aloneB D a v = true ∨ aloneB D b w = true
    · rw [if_pos h2, if_pos (h2.imp (alone_iff D a v).1 (alone_iff D b w).1)]; rfl
    · have h2' : ¬ (what D a (a == 65533 && v == 1) = 1 ∨ what D b (b == 65533 && w == 1) = 1) := fun h => h2 (h.imp (alone_iff D a v).2 (alone_iff D b w).2)
      rw [if_neg h2, if_neg h2']
      have e1 := what_hang (D := D) (r := a) (bad := (a == 65533 && v == 1)) (fun h => h2' (.inl h))
      have e2 := what_hang (D := D) (r := b) (bad := (b == 65533 && w == 1)) (fun h => h2' (.inr h))
      by_cases h3 : kindOf D b = 3 ∨ kindOf D b = 6 ∨ 0 < classOf D b
      · rw [if_pos h3, if_pos (by omega)]; rfl
      · rw [if_neg h3]
        by_cases h4 : kindOf D a = 6
        · rw [if_pos h4, if_pos (by omega)]; rfl
        · rw [if_neg h4, if_neg (by omega), e1, e2]
          rcases hang_cases a with ha | ha | ha | ha | ha | ha <;> rcases hang_cases b with hb | hb | hb | hb | hb | hb <;> rw [ha, hb] <;> rfl
/-- At a unit's beginning: the two units about it. -/
theorem jo_units {D : PD} {l : Bytes} {x : Nat} (hb : Bd l x) (hx : x + wid l x < l.length) :
    jo D l (x + wid l x) = joinB D (run l x : Nat) (wid l x : Nat) (run l (x + wid l x) : Nat) (wid l (x + wid l x) : Nat) := by
  unfold jo
  rw [back_same hb (by omega)]
  rfl
end Go.Proofs.YtfmcadobpgpajaaGreatDoor.Cl
