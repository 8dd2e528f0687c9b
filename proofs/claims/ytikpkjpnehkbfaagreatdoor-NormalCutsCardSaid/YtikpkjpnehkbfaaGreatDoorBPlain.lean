/- What a file of properties says, in plain Lean: lists of bytes, numbers, rows. No program and no memory here. -/
import Derived.RowKit
-- What a file of properties says, in plain Lean: lists of bytes, numbers, rows. No program and no memory here.
namespace Go.Proofs.YtikpkjpnehkbfaaGreatDoor.Sp

/-! ### points -/
def isChar (r : Int) : Bool := decide (0 ≤ r) && decide (r ≤ 1114111) && (decide (r < 55296) || decide (57343 < r))
def isSyl (r : Int) : Bool := decide (44032 ≤ r) && decide (r < 55204)
def isJamo (r : Int) : Bool := (decide (4352 ≤ r) && decide (r < 4371)) || (decide (4449 ≤ r) && decide (r < 4470)) || (decide (4519 < r) && decide (r < 4547))

/-! ### what is known -/
structure Row where
  lo : Int
  hi : Int
  n : Int
structure PD where
  classes : List Row := []
  kinds : List Row := []
  folds : List (Int × List Int) := []
  decomps : List (Int × List Int) := []
def Row.has (x : Row) (r : Int) : Bool := decide (x.lo ≤ r) && decide (r ≤ x.hi)
def said (l : List Row) (r other : Int) : Int :=
  match l.reverse.find? (fun x => x.has r) with
  | some x => x.n
  | none => other
def lookD (l : List (Int × List Int)) (r : Int) : Option (List Int) := (l.find? fun p => p.1 == r).map (·.2)
def classOf (D : PD) (r : Int) : Int := if !isChar r || isSyl r || isJamo r then 0 else said D.classes r 0
def kindOf (D : PD) (r : Int) : Int := if !isChar r then 0 else if isSyl r then said D.kinds r 1 else said D.kinds r 0
def sylOf (r : Int) : List Int :=
  let n := r - 44032
  [4352 + n / 588, 4449 + n / 28 % 21] ++ (if n % 28 = 0 then [] else [4519 + n % 28])
def decompOf (D : PD) (r : Int) : List Int := if isSyl r then sylOf r else (lookD D.decomps r).getD []
def foldOf (D : PD) (r : Int) : List Int := (lookD D.folds r).getD [r]
/-- The least point whose decomposition is these two. -/
def least (l : List (Int × List Int)) (a b : Int) : Option Int :=
  l.foldl (fun m p => if p.2 = [a, b] then (match m with | none => some p.1 | some x => if p.1 < x then some p.1 else some x) else m) none
def composeOf (D : PD) (a b : Int) : Option Int :=
  if 4352 ≤ a ∧ a < 4371 ∧ 4449 ≤ b ∧ b < 4470 then some (44032 + ((a - 4352) * 21 + b - 4449) * 28)
  else if isSyl a = true ∧ (a - 44032) % 28 = 0 ∧ 4519 < b ∧ b < 4547 then some (a + b - 4519)
  else if classOf D a ≠ 0 then none
  else least D.decomps a b

/-! ### a file -/
abbrev Bytes := List UInt8
/-- cut at each byte c. -/
def pieces (c : UInt8) : Bytes → List Bytes
  | [] => [[]]
  | b :: l => if b = c then [] :: pieces c l else (match pieces c l with | [] => [[b]] | p :: ps => (b :: p) :: ps)
def stripCR (l : Bytes) : Bytes := if l.getLast? = some 13 then l.dropLast else l
def beforeHash (l : Bytes) : Bytes := l.takeWhile (· ≠ 35)
def isBlank (c : UInt8) : Bool := c == 32 || c == 9
/-- the words between blanks. -/
def wordsGo : Bytes → Bytes → List Bytes
  | [], w => if w = [] then [] else [w]
  | c :: l, w => if isBlank c then (if w = [] then wordsGo l [] else w :: wordsGo l []) else wordsGo l (w ++ [c])
def wordsOf (l : Bytes) : List Bytes := wordsGo (beforeHash (stripCR l)) []

def hexVal (c : UInt8) : Option Nat :=
  if 48 ≤ c ∧ c ≤ 57 then some (c.toNat - 48)
  else if 97 ≤ c ∧ c ≤ 102 then some (c.toNat - 87)
  else if 65 ≤ c ∧ c ≤ 70 then some (c.toNat - 55)
  else none
def hexGo : Bytes → Nat → Option Nat
  | [], n => some n
  | c :: l, n => match hexVal c with | none => none | some d => hexGo l (16 * n + d)
def numberOf (l : Bytes) : Option Int := if 4 ≤ l.length ∧ l.length ≤ 6 then (hexGo l 0).map Int.ofNat else none
/-- a word that should be a point: it, or the error's number. -/
def pointOf (l : Bytes) : Except Int Int :=
  match numberOf l with
  | none => .error 11
  | some n => if isChar n then .ok n else .error 8
/-- where two dots stand first. -/
def dots : Bytes → Option (Bytes × Bytes)
  | 46 :: 46 :: l => some ([], l)
  | c :: l => (dots l).map fun p => (c :: p.1, p.2)
  | [] => none
def spanOf (l : Bytes) : Except Int (Int × Int) :=
  let (a, b) := match dots l with | some p => p | none => (l, l)
  match numberOf a, numberOf b with
  | some x, some y => if isChar x && isChar y then (if y < x then .error 1 else .ok (x, y)) else .error 8
  | _, _ => .error 11
def threeOf (w : List Bytes) : Except Int (Int × Int) :=
  if w.length < 3 then .error 2 else if 3 < w.length then .error 3 else spanOf (w.getD 1 [])
def isDigit (c : UInt8) : Bool := decide (48 ≤ c) && decide (c ≤ 57)
def decGo : Bytes → Nat → Nat
  | [], n => n
  | c :: l, n => decGo l (10 * n + (c.toNat - 48))
/-- a class: its number, or the error's. -/
def classNo (l : Bytes) : Except Int Int :=
  if l.all isDigit = true ∧ l ≠ [] ∧ ¬ (1 < l.length ∧ l.head? = some 48) then (if 254 < decGo l 0 then .error 1 else .ok (decGo l 0)) else .error 11
def kindNames : List Bytes := [[111, 116, 104, 101, 114], [108, 101, 116, 116, 101, 114], [100, 105, 103, 105, 116], [109, 97, 114, 107], [115, 112, 97, 99, 101], [99, 111, 110, 116, 114, 111, 108], [106, 111, 105, 110, 101, 114], [109, 105, 100, 100, 108, 101]]
def pointsOf : List Bytes → Except Int (List Int)
  | [] => .ok []
  | w :: l => match pointOf w with | .error e => .error e | .ok n => (match pointsOf l with | .error e => .error e | .ok ns => .ok (n :: ns))
def someOf (w : List Bytes) : Except Int (List Int) := if w.length < 3 then .error 2 else if 10 < w.length then .error 5 else pointsOf w.tail

/-- What is known, and the lines of the decompositions. -/
structure St where
  d : PD := {}
  lines : List (Int × Int) := []
def nameClass : Bytes := [99, 108, 97, 115, 115]
def nameKind : Bytes := [107, 105, 110, 100]
def nameFold : Bytes := [102, 111, 108, 100]
def nameDecomp : Bytes := [100, 101, 99, 111, 109, 112]
def doClass (s : St) (w : List Bytes) : Except Int St :=
  match threeOf w with
  | .error e => .error e
  | .ok (lo, hi) => match classNo (w.getD 2 []) with
    | .error e => .error e
    | .ok n => .ok { s with d := { s.d with classes := s.d.classes ++ [⟨lo, hi, n⟩] } }
def doKind (s : St) (w : List Bytes) : Except Int St :=
  match threeOf w with
  | .error e => .error e
  | .ok (lo, hi) => match kindNames.idxOf? (w.getD 2 []) with
    | none => .error 12
    | some n => .ok { s with d := { s.d with kinds := s.d.kinds ++ [⟨lo, hi, n⟩] } }
def doFold (s : St) (w : List Bytes) : Except Int St :=
  match someOf w with
  | .error e => .error e
  | .ok [] => .error 2
  | .ok (r :: l) => if (lookD s.d.folds r).isSome then .error 13 else .ok { s with d := { s.d with folds := s.d.folds ++ [(r, l)] } }
def doDecomp (s : St) (w : List Bytes) (line : Int) : Except Int St :=
  match someOf w with
  | .error e => .error e
  | .ok [] => .error 2
  | .ok (r :: l) => if (lookD s.d.decomps r).isSome then .error 13 else if isSyl r || isJamo r then .error 1
    else .ok { d := { s.d with decomps := s.d.decomps ++ [(r, l)] }, lines := s.lines ++ [(r, line)] }
def doLine (s : St) (w : List Bytes) (line : Int) : Except Int St :=
  match w with
  | [] => .ok s
  | n :: _ => if n = nameClass then doClass s w else if n = nameKind then doKind s w else if n = nameFold then doFold s w else if n = nameDecomp then doDecomp s w line else .error 12
/-- all lines: what is known, or the error's number and its line. -/
def doLines (s : St) : List Bytes → Int → Except (Int × Int) St
  | [], _ => .ok s
  | l :: ls, k => match doLine s (wordsOf l) k with
    | .error e => .error (e, k)
    | .ok s' => doLines s' ls (k + 1)

/-! ### do decompositions end? -/
/-- What points come to, together, more than 8 counting as 9. -/
def sumOf (f : Int → Option Nat) (l : List Int) : Option Nat := l.foldl (fun m q => match m, f q with | some a, some b => some (min (a + b) 9) | _, _ => none) (some 0)
/-- How many points a full decomposition has, more than 8 counting as 9; none: it has no end within so many steps. -/
def fullGo (D : PD) : Nat → Int → Option Nat
  | 0, _ => none
  | k + 1, r => if decompOf D r = [] then some 1 else sumOf (fullGo D k) (decompOf D r)
/-- A full decomposition has an end, and so many points. -/
def Full (D : PD) (r : Int) (n : Nat) : Prop := ∃ k, fullGo D k r = some n
open Classical in
/-- What is wrong with a point's decomposition: the error's number. -/
noncomputable def badOf (D : PD) (r : Int) : Option Int := if ∃ n, Full D r n ∧ n ≤ 8 then none else if ∃ n, Full D r n then some 5 else some 14
/-- The least point of which the decomposition has no end, or is too long: it, the error's number and its line. -/
noncomputable def badLeast (s : St) : Option (Int × Int × Int) :=
  s.lines.foldl (fun m p => match badOf s.d p.1 with | none => m | some e => (match m with | none => some (p.1, e, p.2) | some x => if p.1 < x.1 then some (p.1, e, p.2) else m)) none

def lineCount (s : Bytes) : Nat := (s.filter (· == 10)).length + (if s ≠ [] ∧ s.getLast? ≠ some 10 then 1 else 0)
/-- A file: what is known; or an error: its number, its line (none: it tells no place). -/
noncomputable def parse (s : Bytes) : Except (Int × Option Int) PD :=
  if 1048576 < s.length ∨ 65536 < lineCount s then .error (5, none)
  else match doLines {} (pieces 10 s) 1 with
    | .error (e, k) => .error (e, some k)
    | .ok st => match badLeast st with
      | some (_, e, k) => .error (e, some k)
      | none => .ok st.d
end Go.Proofs.YtikpkjpnehkbfaaGreatDoor.Sp
-- Full decompositions, in plain Lean: how many points they have; what leads to itself has no end.
namespace Go.Proofs.YtikpkjpnehkbfaaGreatDoor.Sp

theorem sumOf_nil (f : Int → Option Nat) : sumOf f [] = some 0 := rfl
def sumFrom (f : Int → Option Nat) (m : Option Nat) (l : List Int) : Option Nat := l.foldl (fun m q => match m, f q with | some a, some b => some (min (a + b) 9) | _, _ => none) m
theorem sumFrom_none (f : Int → Option Nat) : ∀ l, sumFrom f none l = none
  | [] => rfl
  | q :: l => by unfold sumFrom; rw [List.foldl_cons]; exact sumFrom_none f l
theorem sumFrom_cons (f : Int → Option Nat) (a : Nat) (q : Int) (l : List Int) : sumFrom f (some a) (q :: l) = match f q with | some b => sumFrom f (some (min (a + b) 9)) l | none => none := by
  unfold sumFrom
  rw [List.foldl_cons]
  cases f q with
  | none => exact sumFrom_none f l
  | some b => rfl
theorem sumOf_from (f : Int → Option Nat) (l : List Int) : sumOf f l = sumFrom f (some 0) l := rfl
theorem sumFrom_mono {f g : Int → Option Nat} (h : ∀ q n, f q = some n → g q = some n) : ∀ (l : List Int) (a n : Nat), sumFrom f (some a) l = some n → sumFrom g (some a) l = some n
  | [], _, _, e => e
  | q :: l, a, n, e => by
    rw [sumFrom_cons] at e ⊢
    cases hq : f q with
    | none => rw [hq] at e; cases e
    | some b =>
      rw [hq] at e
      rw [h q b hq]
      exact sumFrom_mono h l _ n e
theorem sumFrom_parts {f : Int → Option Nat} : ∀ (l : List Int) (a n : Nat), sumFrom f (some a) l = some n → ∀ q ∈ l, ∃ b, f q = some b
  | [], _, _, _ => by simp
  | q :: l, a, n, e => by
    rw [sumFrom_cons] at e
    cases hq : f q with
    | none => rw [hq] at e; cases e
    | some b =>
      rw [hq] at e
      intro x hx
      rcases List.mem_cons.1 hx with rfl | hx
      · exact ⟨b, hq⟩
      · exact sumFrom_parts l _ n e x hx
theorem sumFrom_le {f : Int → Option Nat} : ∀ (l : List Int) (a n : Nat), a ≤ 9 → sumFrom f (some a) l = some n → n ≤ 9
  | [], a, n, ha, e => by unfold sumFrom at e; simp only [List.foldl_nil, Option.some.injEq] at e; omega
  | q :: l, a, n, ha, e => by
    rw [sumFrom_cons] at e
    cases hq : f q with
    | none => rw [hq] at e; cases e
    | some b =>
      rw [hq] at e
      exact sumFrom_le l _ n (by omega) e
theorem sumFrom_ge {f : Int → Option Nat} : ∀ (l : List Int) (a n : Nat), a ≤ 9 → sumFrom f (some a) l = some n → a ≤ n
  | [], a, n, ha, e => by unfold sumFrom at e; simp only [List.foldl_nil, Option.some.injEq] at e; omega
  | q :: l, a, n, ha, e => by
    rw [sumFrom_cons] at e
    cases hq : f q with
    | none => rw [hq] at e; cases e
    | some b =>
      rw [hq] at e
      have := sumFrom_ge l _ n (by omega) e
      omega

theorem fullGo_succ (D : PD) : ∀ (k : Nat) (r : Int) (n : Nat), fullGo D k r = some n → fullGo D (k + 1) r = some n
  | 0, _, _, e => by cases e
  | k + 1, r, n, e => by
    rw [fullGo] at e ⊢
    by_cases hd : decompOf D r = []
    · rw [if_pos hd] at e ⊢; exact e
    · rw [if_neg hd] at e ⊢
      exact sumFrom_mono (fun q n h => fullGo_succ D k q n h) _ 0 n e
theorem fullGo_le (D : PD) {k k' : Nat} (h : k ≤ k') {r : Int} {n : Nat} (e : fullGo D k r = some n) : fullGo D k' r = some n := by
  induction h with
  | refl => exact e
  | step _ ih => exact fullGo_succ D _ r n ih
theorem Full.unique {D : PD} {r : Int} {n m : Nat} (h : Full D r n) (h' : Full D r m) : n = m := by
  obtain ⟨k, hk⟩ := h
  obtain ⟨k', hk'⟩ := h'
  have e1 := fullGo_le D (Nat.le_max_left k k') hk
  have e2 := fullGo_le D (Nat.le_max_right k k') hk'
  rw [e1] at e2
  injection e2
theorem fullGo_pos (D : PD) : ∀ (k : Nat) (r : Int) (n : Nat), fullGo D k r = some n → 1 ≤ n ∧ n ≤ 9
  | 0, _, _, e => by cases e
  | k + 1, r, n, e => by
    rw [fullGo] at e
    by_cases hd : decompOf D r = []
    · rw [if_pos hd] at e; simp only [Option.some.injEq] at e; omega
    · rw [if_neg hd] at e
      cases hl : decompOf D r with
      | nil => exact absurd hl hd
      | cons q l =>
        rw [hl, sumOf_from, sumFrom_cons] at e
        cases hq : fullGo D k q with
        | none => rw [hq] at e; cases e
        | some b =>
          rw [hq] at e
          have hb := fullGo_pos D k q b hq
          have := sumFrom_ge _ _ _ (by omega) e
          exact ⟨by omega, sumFrom_le _ _ _ (by omega) e⟩
theorem Full.pos {D : PD} {r : Int} {n : Nat} (h : Full D r n) : 1 ≤ n ∧ n ≤ 9 := by
  obtain ⟨k, hk⟩ := h
  exact fullGo_pos D k r n hk
theorem Full.leaf {D : PD} {r : Int} (h : decompOf D r = []) : Full D r 1 := ⟨1, by rw [fullGo, if_pos h]⟩
/-- The points of an own decomposition, one behind the other. -/
inductive Sums (D : PD) : Nat → List Int → Nat → Prop
  | nil (a : Nat) : Sums D a [] a
  | cons (a b n : Nat) (q : Int) (l : List Int) : Full D q b → Sums D (min (a + b) 9) l n → Sums D a (q :: l) n
theorem Sums.go {D : PD} {a n : Nat} {l : List Int} (h : Sums D a l n) : ∃ k, sumFrom (fullGo D k) (some a) l = some n := by
  induction h with
  | nil a => exact ⟨0, rfl⟩
  | cons a b n q l hq _ ih =>
    obtain ⟨k1, h1⟩ := hq
    obtain ⟨k2, h2⟩ := ih
    refine ⟨max k1 k2, ?_⟩
    rw [sumFrom_cons, fullGo_le D (Nat.le_max_left k1 k2) h1]
    exact sumFrom_mono (fun q n e => fullGo_le D (Nat.le_max_right k1 k2) e) _ _ _ h2
theorem Sums.full {D : PD} {r : Int} {n : Nat} (hd : decompOf D r ≠ []) (h : Sums D 0 (decompOf D r) n) : Full D r n := by
  obtain ⟨k, hk⟩ := h.go
  exact ⟨k + 1, by rw [fullGo, if_neg hd, sumOf_from]; exact hk⟩
theorem Sums.of_go {D : PD} {k : Nat} : ∀ {l : List Int} {a n : Nat}, sumFrom (fullGo D k) (some a) l = some n → Sums D a l n
  | [], a, n, e => by
    unfold sumFrom at e
    simp only [List.foldl_nil, Option.some.injEq] at e
    subst e
    exact .nil _
  | q :: l, a, n, e => by
    rw [sumFrom_cons] at e
    cases hq : fullGo D k q with
    | none => rw [hq] at e; cases e
    | some b =>
      rw [hq] at e
      exact .cons a b n q l ⟨k, hq⟩ (Sums.of_go e)
theorem Full.sums {D : PD} {r : Int} {n : Nat} (h : Full D r n) (hd : decompOf D r ≠ []) : Sums D 0 (decompOf D r) n := by
  obtain ⟨k, hk⟩ := h
  cases k with
  | zero => cases hk
  | succ k =>
    rw [fullGo, if_neg hd, sumOf_from] at hk
    exact Sums.of_go hk
theorem Sums.snoc {D : PD} {a m b : Nat} {l : List Int} {q : Int} (h : Sums D a l m) (hq : Full D q b) : Sums D a (l ++ [q]) (min (m + b) 9) := by
  induction h with
  | nil a => exact .cons a b _ q [] hq (.nil _)
  | cons a c n x l hx _ ih => exact .cons a c _ x _ hx ih
theorem Sums.part {D : PD} {a n : Nat} {l : List Int} (h : Sums D a l n) : ∀ q ∈ l, ∃ b, Full D q b := by
  induction h with
  | nil a => simp
  | cons a b n x l hx _ ih =>
    intro q hq
    rcases List.mem_cons.1 hq with rfl | hq
    · exact ⟨b, hx⟩
    · exact ih q hq

/-- One point leads to another, in one step or more. -/
inductive Leads (D : PD) : Int → Int → Prop
  | one (r q : Int) : q ∈ decompOf D r → Leads D r q
  | more (r q x : Int) : Leads D r q → x ∈ decompOf D q → Leads D r x
theorem leads_go (D : PD) {r q : Int} (h : Leads D r q) : ∀ k n, fullGo D k r = some n → ∃ k', k' < k ∧ ∃ m, fullGo D k' q = some m := by
  have step : ∀ (r q : Int) k n, fullGo D k r = some n → q ∈ decompOf D r → ∃ k', k' < k ∧ ∃ m, fullGo D k' q = some m := by
    intro r q k n e hq
    cases k with
    | zero => cases e
    | succ k =>
      rw [fullGo] at e
      by_cases hd : decompOf D r = []
      · rw [hd] at hq; cases hq
      · rw [if_neg hd] at e
        exact ⟨k, by omega, sumFrom_parts _ _ _ e q hq⟩
  induction h with
  | one q hq => exact fun k n e => step r q k n e hq
  | more q x _ hx ih =>
    intro k n e
    obtain ⟨k', hk', m, hm⟩ := ih k n e
    obtain ⟨k'', hk'', m', hm'⟩ := step q x k' m hm hx
    exact ⟨k'', by omega, m', hm'⟩
/-- What leads to itself has no end. -/
theorem Leads.loop {D : PD} {r : Int} (h : Leads D r r) (n : Nat) : ¬ Full D r n := by
  rintro ⟨k, hk⟩
  have key : ∀ k, ∀ n, fullGo D k r ≠ some n := by
    intro k
    induction k using Nat.strongRecOn with
    | _ k ih =>
      intro n hn
      obtain ⟨k', hk', m, hm⟩ := leads_go D h k n hn
      exact ih k' hk' m hm
  exact key k n hk
/-- What leads to something without an end has none. -/
theorem Leads.none {D : PD} {r q : Int} (h : Leads D r q) (hq : ∀ n, ¬ Full D q n) (n : Nat) : ¬ Full D r n := by
  rintro ⟨k, hk⟩
  obtain ⟨k', _, m, hm⟩ := leads_go D h k n hk
  exact hq m ⟨k', hm⟩
theorem badOf_none {D : PD} {r : Int} {n : Nat} (h : Full D r n) (hn : n ≤ 8) : badOf D r = none := by
  unfold badOf
  rw [if_pos ⟨n, h, hn⟩]
theorem badOf_many {D : PD} {r : Int} {n : Nat} (h : Full D r n) (hn : 8 < n) : badOf D r = some 5 := by
  unfold badOf
  rw [if_neg (by rintro ⟨m, hm, h8⟩; have := h.unique hm; omega), if_pos ⟨n, h⟩]
theorem badOf_loop {D : PD} {r : Int} (h : ∀ n, ¬ Full D r n) : badOf D r = some 14 := by
  unfold badOf
  rw [if_neg (by rintro ⟨m, hm, _⟩; exact h m hm), if_neg (by rintro ⟨m, hm⟩; exact h m hm)]
end Go.Proofs.YtikpkjpnehkbfaaGreatDoor.Sp
-- What holds of what the lines said so far: plain.
namespace Go.Proofs.YtikpkjpnehkbfaaGreatDoor.Sp

structure StOk (st : St) : Prop where
  f8 : ∀ q ∈ st.d.folds, q.2.length ≤ 8
  d8 : ∀ q ∈ st.d.decomps, q.2.length ≤ 8 ∧ q.2 ≠ []
  keys : st.lines.map (·.1) = st.d.decomps.map (·.1)
  nodup : (st.d.decomps.map (·.1)).Nodup
  plain : ∀ q ∈ st.d.decomps, isSyl q.1 = false ∧ isJamo q.1 = false
  chars : ∀ q ∈ st.d.decomps, isChar q.1 = true ∧ ∀ x ∈ q.2, isChar x = true
  fchars : ∀ q ∈ st.d.folds, isChar q.1 = true ∧ ∀ x ∈ q.2, isChar x = true
theorem StOk.empty : StOk {} := ⟨by simp, by simp, rfl, by simp, by simp, by simp, by simp⟩
theorem lookD_none {l : List (Int × List Int)} {r : Int} : lookD l r = none ↔ r ∉ l.map (·.1) := by
  unfold lookD
  rw [Option.map_eq_none_iff, List.find?_eq_none]
  constructor
  · intro h hr
    obtain ⟨p, hp, rfl⟩ := List.mem_map.1 hr
    exact h p hp (by simp)
  · intro h p hp he
    exact h (List.mem_map.2 ⟨p, hp, by simpa using he⟩)
theorem pointOf_char {w : Bytes} {n : Int} (h : pointOf w = .ok n) : isChar n = true := by
  unfold pointOf at h
  split at h
  · cases h
  · split at h
    · injection h with h; subst h; assumption
    · cases h
theorem pointsOf_chars : ∀ {w : List Bytes} {l : List Int}, pointsOf w = .ok l → l.length = w.length ∧ ∀ x ∈ l, isChar x = true
  | [], l, h => by
    simp only [pointsOf, Except.ok.injEq] at h
    subst h
    simp
  | x :: w, l, h => by
    simp only [pointsOf] at h
    cases hp : pointOf x with
    | error e => rw [hp] at h; cases h
    | ok n =>
      rw [hp] at h
      simp only at h
      cases hq : pointsOf w with
      | error e => rw [hq] at h; cases h
      | ok ns =>
        rw [hq] at h
        simp only [Except.ok.injEq] at h
        subst h
        obtain ⟨h1, h2⟩ := pointsOf_chars hq
        refine ⟨by simp [h1], fun y hy => ?_⟩
        rcases List.mem_cons.1 hy with rfl | hy
        · exact pointOf_char hp
        · exact h2 y hy
theorem someOf_chars {w : List Bytes} {l : List Int} (h : someOf w = .ok l) : ∃ r ps, l = r :: ps ∧ ps ≠ [] ∧ ps.length ≤ 8 ∧ isChar r = true ∧ ∀ x ∈ ps, isChar x = true := by
  unfold someOf at h
  split at h
  · cases h
  · split at h
    · cases h
    · obtain ⟨h1, h2⟩ := pointsOf_chars h
      rw [List.length_tail] at h1
      match l, h1, h2 with
      | [], h1, _ => simp at h1; omega
      | [r], h1, _ => simp at h1; omega
      | r :: a :: ps, h1, h2 => exact ⟨r, a :: ps, rfl, by simp, by simp at h1 ⊢; omega, h2 r (by simp), fun x hx => h2 x (by simp at hx ⊢; exact .inr hx)⟩
theorem doFold_ok {st st' : St} {w : List Bytes} (h : StOk st) (hd : doFold st w = .ok st') : StOk st' := by
  unfold doFold at hd
  cases hs : someOf w with
  | error e => rw [hs] at hd; cases hd
  | ok l =>
    obtain ⟨r, ps, rfl, hne, h8, hc, hcs⟩ := someOf_chars hs
    rw [hs] at hd
    simp only at hd
    split at hd
    · cases hd
    · injection hd with hd
      subst hd
      exact { h with
        f8 := fun q hq => by
          rcases List.mem_append.1 hq with hq | hq
          · exact h.f8 q hq
          · simp only [List.mem_singleton] at hq; subst hq; exact h8
        fchars := fun q hq => by
          rcases List.mem_append.1 hq with hq | hq
          · exact h.fchars q hq
          · simp only [List.mem_singleton] at hq; subst hq; exact ⟨hc, hcs⟩ }
theorem doDecomp_ok {st st' : St} {w : List Bytes} {k : Int} (h : StOk st) (hd : doDecomp st w k = .ok st') : StOk st' := by
  unfold doDecomp at hd
  cases hs : someOf w with
  | error e => rw [hs] at hd; cases hd
  | ok l =>
    obtain ⟨r, ps, rfl, hne, h8, hc, hcs⟩ := someOf_chars hs
    rw [hs] at hd
    simp only at hd
    split at hd
    · cases hd
    · rename_i hl
      split at hd
      · cases hd
      · rename_i hj
        injection hd with hd
        subst hd
        have hl' : r ∉ st.d.decomps.map (·.1) := lookD_none.1 (by simpa using hl)
        simp only [Bool.or_eq_true, not_or, Bool.not_eq_true] at hj
        exact { h with
          d8 := fun q hq => by
            rcases List.mem_append.1 hq with hq | hq
            · exact h.d8 q hq
            · simp only [List.mem_singleton] at hq; subst hq; exact ⟨h8, hne⟩
          keys := by simp [h.keys]
          nodup := by
            simp only [List.map_append, List.map_cons, List.map_nil]
            rw [List.nodup_append]
            refine ⟨h.nodup, by simp, fun a ha b hb => ?_⟩
            simp only [List.mem_singleton] at hb
            subst hb
            rintro rfl
            exact hl' ha
          plain := fun q hq => by
            rcases List.mem_append.1 hq with hq | hq
            · exact h.plain q hq
            · simp only [List.mem_singleton] at hq; subst hq; exact hj
          chars := fun q hq => by
            rcases List.mem_append.1 hq with hq | hq
            · exact h.chars q hq
            · simp only [List.mem_singleton] at hq; subst hq; exact ⟨hc, hcs⟩ }
theorem doClass_ok {st st' : St} {w : List Bytes} (h : StOk st) (hd : doClass st w = .ok st') : StOk st' := by
  unfold doClass at hd
  split at hd
  · cases hd
  · split at hd
    · cases hd
    · injection hd with hd
      subst hd
      exact ⟨h.f8, h.d8, h.keys, h.nodup, h.plain, h.chars, h.fchars⟩
theorem doKind_ok {st st' : St} {w : List Bytes} (h : StOk st) (hd : doKind st w = .ok st') : StOk st' := by
  unfold doKind at hd
  split at hd
  · cases hd
  · split at hd
    · cases hd
    · injection hd with hd
      subst hd
      exact ⟨h.f8, h.d8, h.keys, h.nodup, h.plain, h.chars, h.fchars⟩
theorem doLine_ok {st st' : St} {w : List Bytes} {k : Int} (h : StOk st) (hd : doLine st w k = .ok st') : StOk st' := by
  unfold doLine at hd
  split at hd
  · injection hd with hd
    subst hd
    exact h
  · split at hd
    · exact doClass_ok h hd
    · split at hd
      · exact doKind_ok h hd
      · split at hd
        · exact doFold_ok h hd
        · split at hd
          · exact doDecomp_ok h hd
          · cases hd
theorem doLines_ok : ∀ {ls : List Bytes} {st st' : St} {k : Int}, StOk st → doLines st ls k = .ok st' → StOk st'
  | [], st, st', k, h, hd => by
    simp only [doLines, Except.ok.injEq] at hd
    subst hd
    exact h
  | l :: ls, st, st', k, h, hd => by
    simp only [doLines] at hd
    cases hl : doLine st (wordsOf l) k with
    | error e => rw [hl] at hd; cases hd
    | ok s => rw [hl] at hd; exact doLines_ok (doLine_ok h hl) hd
end Go.Proofs.YtikpkjpnehkbfaaGreatDoor.Sp
-- What composing and decomposing have to do with each other: plain.
namespace Go.Proofs.YtikpkjpnehkbfaaGreatDoor.Sp

def leastF (a b : Int) (m : Option Int) (p : Int × List Int) : Option Int := if p.2 = [a, b] then (match m with | none => some p.1 | some x => if p.1 < x then some p.1 else some x) else m
theorem least_fold (a b : Int) : ∀ (l : List (Int × List Int)) (m₀ : Option Int), (l.foldl (leastF a b) m₀ = none → m₀ = none ∧ ∀ p ∈ l, p.2 ≠ [a, b]) ∧
    ∀ x, l.foldl (leastF a b) m₀ = some x → (m₀ = some x ∨ ∃ p ∈ l, p.1 = x ∧ p.2 = [a, b]) ∧ (∀ y, m₀ = some y → x ≤ y) ∧ ∀ p ∈ l, p.2 = [a, b] → x ≤ p.1
  | [], m₀ => ⟨fun h => ⟨h, by simp⟩, fun x h => ⟨.inl h, fun y hy => by
      have h' : m₀ = some x := h
      rw [h'] at hy
      injection hy with hy
      omega, by simp⟩⟩
  | p :: l, m₀ => by
    obtain ⟨h1, h2⟩ := least_fold a b l (leastF a b m₀ p)
    rw [List.foldl_cons]
    by_cases hp : p.2 = [a, b]
    · have hf : ∃ z, leastF a b m₀ p = some z ∧ z ≤ p.1 ∧ (m₀ = some z ∨ p.1 = z) ∧ ∀ y, m₀ = some y → z ≤ y := by
        unfold leastF
        rw [if_pos hp]
        cases m₀ with
        | none => exact ⟨p.1, rfl, Int.le_refl _, .inr rfl, fun y h => by cases h⟩
        | some y =>
          by_cases hlt : p.1 < y
          · simp only [if_pos hlt]
            exact ⟨p.1, rfl, Int.le_refl _, .inr rfl, fun z h => by injection h with h; omega⟩
          · simp only [if_neg hlt]
            exact ⟨y, rfl, by omega, .inl rfl, fun z h => by injection h with h; omega⟩
      obtain ⟨z, hz, z1, z2, z3⟩ := hf
      rw [hz] at h1 h2 ⊢
      refine ⟨fun h => absurd (h1 h).1 (by simp), fun x h => ?_⟩
      obtain ⟨k1, k2, k3⟩ := h2 x h
      have k4 := k2 z rfl
      refine ⟨?_, fun y hy => by have := z3 y hy; omega, fun q hq hq2 => ?_⟩
      · rcases k1 with e | ⟨q, hq, e⟩
        · injection e with e
          subst e
          rcases z2 with e | e
          · exact .inl e
          · exact .inr ⟨p, by simp, e, hp⟩
        · exact .inr ⟨q, by simp [hq], e⟩
      · rcases List.mem_cons.1 hq with rfl | hq
        · omega
        · exact k3 q hq hq2
    · have hf : leastF a b m₀ p = m₀ := by unfold leastF; rw [if_neg hp]
      rw [hf] at h1 h2 ⊢
      refine ⟨fun h => ⟨(h1 h).1, fun q hq => ?_⟩, fun x h => ?_⟩
      · rcases List.mem_cons.1 hq with rfl | hq
        · exact hp
        · exact (h1 h).2 q hq
      · obtain ⟨k1, k2, k3⟩ := h2 x h
        refine ⟨?_, k2, fun q hq hq2 => ?_⟩
        · rcases k1 with e | ⟨q, hq, e⟩
          · exact .inl e
          · exact .inr ⟨q, by simp [hq], e⟩
        · rcases List.mem_cons.1 hq with rfl | hq
          · exact absurd hq2 hp
          · exact k3 q hq hq2
theorem least_none {l : List (Int × List Int)} {a b : Int} (h : least l a b = none) : ∀ p ∈ l, p.2 ≠ [a, b] := ((least_fold a b l none).1 h).2
theorem least_some {l : List (Int × List Int)} {a b m : Int} (h : least l a b = some m) : (m, [a, b]) ∈ l ∧ ∀ p ∈ l, p.2 = [a, b] → m ≤ p.1 := by
  obtain ⟨k1, _, k3⟩ := (least_fold a b l none).2 m h
  refine ⟨?_, k3⟩
  rcases k1 with e | ⟨p, hp, e1, e2⟩
  · cases e
  · have : p = (m, [a, b]) := by cases p; simp only at e1 e2; rw [e1, e2]
    exact this ▸ hp
theorem lookD_mem' {l : List (Int × List Int)} (hnd : (l.map (·.1)).Nodup) {r : Int} {ps : List Int} (h : (r, ps) ∈ l) : lookD l r = some ps := by
  induction l with
  | nil => cases h
  | cons p l ih =>
    simp only [List.map_cons, List.nodup_cons] at hnd
    unfold lookD
    rw [List.find?_cons]
    rcases List.mem_cons.1 h with e | h
    · rw [← e]; simp
    · have hne : p.1 ≠ r := fun e => hnd.1 (List.mem_map.2 ⟨_, h, e.symm⟩)
      have hb : (p.1 == r) = false := beq_eq_false_iff_ne.2 hne
      rw [hb]
      exact ih hnd.2 h
theorem lookD_in {l : List (Int × List Int)} {r : Int} {ps : List Int} (h : lookD l r = some ps) : (r, ps) ∈ l := by
  unfold lookD at h
  obtain ⟨p, hp, rfl⟩ := Option.map_eq_some_iff.1 h
  have h1 := List.mem_of_find?_eq_some hp
  have h2 := List.find?_some hp
  have : p = (r, p.2) := by cases p; simp at h2; simp [h2]
  exact this ▸ h1
theorem class_syl {D : PD} {r : Int} (h : isSyl r = true) : classOf D r = 0 := by unfold classOf; rw [h]; simp
theorem class_jamo {D : PD} {r : Int} (h : isJamo r = true) : classOf D r = 0 := by unfold classOf; rw [h]; simp
/-- What is composed of two points has just these as its decomposition. -/
theorem compose_back {st : St} (hok : StOk st) {a b r : Int} (h : composeOf st.d a b = some r) : classOf st.d a = 0 ∧ decompOf st.d r = (if isSyl r && isSyl a then decompOf st.d a else [a]) ++ [b] := by
  unfold composeOf at h
  split at h
  · rename_i hc
    injection h with h
    have hr : isSyl r = true := by simp [isSyl]; omega
    have ha : isSyl a = false := by simp [isSyl]; omega
    refine ⟨class_jamo (by simp [isJamo]; omega), ?_⟩
    rw [hr, ha]
    unfold decompOf
    rw [if_pos hr]
    unfold sylOf
    have e1 : (r - 44032) % 28 = 0 := by omega
    have e2 : 4352 + (r - 44032) / 588 = a := by omega
    have e3 : 4449 + (r - 44032) / 28 % 21 = b := by omega
    simp only [e1, e2, e3, if_true]
    rfl
  · split at h
    · rename_i _ hc
      injection h with h
      have hr : isSyl r = true := by
        have := hc.1
        simp [isSyl] at this ⊢
        omega
      refine ⟨class_syl hc.1, ?_⟩
      rw [hr, hc.1]
      unfold decompOf
      rw [if_pos hr, if_pos hc.1]
      unfold sylOf
      have h0 : 44032 ≤ a := by have := hc.1; simp [isSyl] at this; exact this.1
      have e1 : ¬ (r - 44032) % 28 = 0 := by omega
      have e2 : (r - 44032) / 588 = (a - 44032) / 588 := by omega
      have e3 : (r - 44032) / 28 % 21 = (a - 44032) / 28 % 21 := by omega
      have e4 : 4519 + (r - 44032) % 28 = b := by omega
      simp only [e1, e2, e3, e4, hc.2.1, if_true, if_false]
      rfl
    · split at h
      · cases h
      · rename_i hcl
        have hcl : classOf st.d a = 0 := Decidable.not_not.1 hcl
        obtain ⟨hm, _⟩ := least_some h
        have hr : isSyl r = false := (hok.plain _ hm).1
        refine ⟨hcl, ?_⟩
        unfold decompOf
        rw [hr, lookD_mem' hok.nodup hm]
        rfl
/-- What has two points as its decomposition, the first of class nought, is composed of them; or a lesser one is, or a syllable. -/
theorem decomp_back {st : St} {q x y : Int} (h : decompOf st.d q = [x, y]) (hc : classOf st.d x = 0) : ∃ c, composeOf st.d x y = some c ∧ (c ≤ q ∨ isSyl c = true) := by
  unfold composeOf
  by_cases h1 : 4352 ≤ x ∧ x < 4371 ∧ 4449 ≤ y ∧ y < 4470
  · rw [if_pos h1]
    exact ⟨_, rfl, .inr (by simp [isSyl]; omega)⟩
  · rw [if_neg h1]
    by_cases h2 : isSyl x = true ∧ (x - 44032) % 28 = 0 ∧ 4519 < y ∧ y < 4547
    · rw [if_pos h2]
      refine ⟨_, rfl, .inr ?_⟩
      have := h2.1
      simp [isSyl] at this ⊢
      omega
    · rw [if_neg h2, if_neg (by simp [hc])]
      unfold decompOf at h
      cases hs : isSyl q with
      | true =>
        rw [hs, if_pos rfl] at h
        exfalso
        unfold sylOf at h
        simp [isSyl] at hs
        dsimp only at h
        by_cases h28 : (q - 44032) % 28 = 0
        · rw [if_pos h28] at h
          simp only [List.append_nil, List.cons.injEq, and_true] at h
          omega
        · rw [if_neg h28] at h
          simp at h
      | false =>
        rw [hs] at h
        simp only [Bool.false_eq_true, if_false] at h
        cases hl : lookD st.d.decomps q with
        | none => rw [hl] at h; cases h
        | some ps =>
          rw [hl] at h
          simp only [Option.getD_some] at h
          subst h
          cases hm : least st.d.decomps x y with
          | none => exact absurd rfl (least_none hm _ (lookD_in hl))
          | some c => exact ⟨c, rfl, .inl ((least_some hm).2 _ (lookD_in hl) rfl)⟩
end Go.Proofs.YtikpkjpnehkbfaaGreatDoor.Sp
-- The least decomposition that is bad; and a file of some lines, read: plain.
namespace Go.Proofs.YtikpkjpnehkbfaaGreatDoor.Sp

noncomputable def badF (D : PD) (m : Option (Int × Int × Int)) (p : Int × Int) : Option (Int × Int × Int) := match badOf D p.1 with | none => m | some e => (match m with | none => some (p.1, e, p.2) | some x => if p.1 < x.1 then some (p.1, e, p.2) else m)
theorem bad_fold (D : PD) : ∀ (l : List (Int × Int)) (m₀ : Option (Int × Int × Int)), (l.foldl (badF D) m₀ = none → m₀ = none ∧ ∀ p ∈ l, badOf D p.1 = none) ∧
    ∀ x, l.foldl (badF D) m₀ = some x → (m₀ = some x ∨ ((x.1, x.2.2) ∈ l ∧ badOf D x.1 = some x.2.1)) ∧ (∀ y, m₀ = some y → x.1 ≤ y.1) ∧ ∀ p ∈ l, badOf D p.1 ≠ none → x.1 ≤ p.1
  | [], m₀ => ⟨fun h => ⟨h, by simp⟩, fun x h => ⟨.inl h, fun y hy => by
      have h' : m₀ = some x := h
      rw [h'] at hy
      injection hy with hy
      subst hy
      omega, by simp⟩⟩
  | p :: l, m₀ => by
    obtain ⟨h1, h2⟩ := bad_fold D l (badF D m₀ p)
    rw [List.foldl_cons]
    cases hp : badOf D p.1 with
    | none =>
      have hf : badF D m₀ p = m₀ := by unfold badF; rw [hp]
      rw [hf] at h1 h2 ⊢
      refine ⟨fun h => ⟨(h1 h).1, fun q hq => ?_⟩, fun x h => ?_⟩
      · rcases List.mem_cons.1 hq with rfl | hq
        · exact hp
        · exact (h1 h).2 q hq
      · obtain ⟨k1, k2, k3⟩ := h2 x h
        refine ⟨?_, k2, fun q hq hq2 => ?_⟩
        · rcases k1 with e | ⟨q, e⟩
          · exact .inl e
          · exact .inr ⟨by simp [q], e⟩
        · rcases List.mem_cons.1 hq with rfl | hq
          · exact absurd hp hq2
          · exact k3 q hq hq2
    | some e =>
      have hf : ∃ z, badF D m₀ p = some z ∧ z.1 ≤ p.1 ∧ (m₀ = some z ∨ z = (p.1, e, p.2)) ∧ ∀ y, m₀ = some y → z.1 ≤ y.1 := by
        unfold badF
        rw [hp]
        cases m₀ with
        | none => exact ⟨_, rfl, Int.le_refl _, .inr rfl, fun y h => by cases h⟩
        | some y =>
          by_cases hlt : p.1 < y.1
          · simp only [if_pos hlt]
            exact ⟨_, rfl, Int.le_refl _, .inr rfl, fun z h => by injection h with h; subst h; simp only; omega⟩
          · simp only [if_neg hlt]
            exact ⟨y, rfl, by omega, .inl rfl, fun z h => by injection h with h; subst h; omega⟩
      obtain ⟨z, hz, z1, z2, z3⟩ := hf
      rw [hz] at h1 h2 ⊢
      refine ⟨fun h => absurd (h1 h).1 (by simp), fun x h => ?_⟩
      obtain ⟨k1, k2, k3⟩ := h2 x h
      have k4 := k2 z rfl
      refine ⟨?_, fun y hy => by have := z3 y hy; omega, fun q hq hq2 => ?_⟩
      · rcases k1 with e' | ⟨q, e'⟩
        · injection e' with e'
          subst e'
          rcases z2 with e' | e'
          · exact .inl e'
          · rw [e']
            exact .inr ⟨by simp, hp⟩
        · exact .inr ⟨by simp [q], e'⟩
      · rcases List.mem_cons.1 hq with rfl | hq
        · omega
        · exact k3 q hq hq2
theorem badLeast_none {st : St} (h : ∀ p ∈ st.lines, badOf st.d p.1 = none) : badLeast st = none := by
  cases hb : badLeast st with
  | none => rfl
  | some x =>
    rcases ((bad_fold st.d st.lines none).2 x hb).1 with e | ⟨h1, h2⟩
    · cases e
    · rw [h _ h1] at h2
      cases h2
theorem nodup_val {l : List (Int × Int)} (h : (l.map (·.1)).Nodup) {x a b : Int} (h1 : (x, a) ∈ l) (h2 : (x, b) ∈ l) : a = b := by
  induction l with
  | nil => cases h1
  | cons p l ih =>
    simp only [List.map_cons, List.nodup_cons] at h
    rcases List.mem_cons.1 h1 with e1 | h1
    · rcases List.mem_cons.1 h2 with e2 | h2
      · rw [← e1] at e2
        injection e2 with _ e2
        exact e2.symm
      · exact absurd (List.mem_map.2 ⟨_, h2, by rw [← e1]⟩) h.1
    · rcases List.mem_cons.1 h2 with e2 | h2
      · exact absurd (List.mem_map.2 ⟨_, h1, by rw [← e2]⟩) h.1
      · exact ih h.2 h1 h2
theorem badLeast_one {st : St} (hnd : (st.lines.map (·.1)).Nodup) {p : Int × Int} {no : Int} (hp : p ∈ st.lines) (hb : badOf st.d p.1 = some no) (hl : ∀ q ∈ st.lines, badOf st.d q.1 ≠ none → p.1 ≤ q.1) : badLeast st = some (p.1, no, p.2) := by
  cases hx : badLeast st with
  | none =>
    have := ((bad_fold st.d st.lines none).1 hx).2 p hp
    rw [this] at hb
    cases hb
  | some x =>
    obtain ⟨k1, _, k3⟩ := (bad_fold st.d st.lines none).2 x hx
    have k4 := k3 p hp (by rw [hb]; simp)
    rcases k1 with e | ⟨h1, h2⟩
    · cases e
    · have k5 := hl _ h1 (by rw [h2]; simp)
      obtain ⟨x1, x2, x3⟩ := x
      simp only at h1 h2 k4 k5
      have e : x1 = p.1 := by omega
      subst e
      rw [hb] at h2
      injection h2 with h2
      rw [nodup_val hnd h1 (show (p.1, p.2) ∈ st.lines from hp), h2]
end Go.Proofs.YtikpkjpnehkbfaaGreatDoor.Sp
-- The file of four lines that the laws read.
namespace Go.Proofs.YtikpkjpnehkbfaaGreatDoor.Sp

def worksText : Bytes := [99, 108, 97, 115, 115, 32, 48, 51, 48, 48, 32, 50, 51, 48, 10, 107, 105, 110, 100, 32, 48, 48, 52, 49, 32, 108, 101, 116, 116, 101, 114, 10, 102, 111, 108, 100, 32, 48, 48, 52, 49, 32, 48, 48, 54, 49, 10, 100, 101, 99, 111, 109, 112, 32, 48, 48, 67, 48, 32, 48, 48, 52, 49, 32, 48, 51, 48, 48]
def worksD : PD := { classes := [⟨768, 768, 230⟩], kinds := [⟨65, 65, 1⟩], folds := [(65, [97])], decomps := [(192, [65, 768])] }
theorem works_lines : doLines {} (pieces 10 worksText) 1 = .ok { d := worksD, lines := [(192, 4)] } := by rfl
theorem works_full : Full worksD 192 2 := ⟨3, by rfl⟩
theorem works_parse : parse worksText = .ok worksD := by
  unfold parse
  rw [if_neg (by decide), works_lines]
  have hb : badLeast { d := worksD, lines := [(192, 4)] } = none := badLeast_none (fun p hp => by
    simp only [List.mem_singleton] at hp
    subst hp
    exact badOf_none works_full (by decide))
  simp only [hb]
theorem works_comp : composeOf worksD 65 768 = some 192 ∧ composeOf worksD 4352 4449 = some 44032 ∧ composeOf worksD 768 65 = none := by decide
theorem works_tell : classOf worksD 768 = 230 ∧ kindOf worksD 65 = 1 ∧ foldOf worksD 65 = [97] ∧ decompOf worksD 44033 = [4352, 4449, 4520] := by decide
end Go.Proofs.YtikpkjpnehkbfaaGreatDoor.Sp
-- Blanks, remarks, ends of lines and lines that say nothing change nothing of what a file says; lines behind a file: plain.
namespace Go.Proofs.YtikpkjpnehkbfaaGreatDoor.Sp
set_option linter.unusedSimpArgs false

/-! ### what lines say, without their numbers -/
def doWords (d : PD) (w : List Bytes) : Option PD := match doLine { d := d, lines := [] } w 0 with | .ok s => some s.d | .error _ => none
def runWords : PD → List (List Bytes) → Option PD
  | d, [] => some d
  | d, w :: ws => match doWords d w with | none => none | some d' => runWords d' ws
theorem doLine_same {d : PD} {ls ls' : List (Int × Int)} {w : List Bytes} {k k' : Int} {s : St} (h : doLine ⟨d, ls⟩ w k = .ok s) : ∃ s', doLine ⟨d, ls'⟩ w k' = .ok s' ∧ s'.d = s.d := by
  unfold doLine at h ⊢
  split at h
  · injection h with h
    subst h
    exact ⟨_, rfl, rfl⟩
  · rename_i n t
    split at h
    · rename_i h1
      rw [if_pos h1]
      unfold doClass at h ⊢
      split at h
      · cases h
      · split at h
        · cases h
        · injection h with h
          subst h
          exact ⟨_, rfl, rfl⟩
    · rename_i h1
      rw [if_neg h1]
      split at h
      · rename_i h2
        rw [if_pos h2]
        unfold doKind at h ⊢
        split at h
        · cases h
        · split at h
          · cases h
          · injection h with h
            subst h
            exact ⟨_, rfl, rfl⟩
      · rename_i h2
        rw [if_neg h2]
        split at h
        · rename_i h3
          rw [if_pos h3]
          unfold doFold at h ⊢
          split at h
          · cases h
          · cases h
          · split at h
            · cases h
            · rename_i h4
              injection h with h
              subst h
              rw [if_neg h4]
              exact ⟨_, rfl, rfl⟩
        · rename_i h3
          rw [if_neg h3]
          split at h
          · rename_i h4
            rw [if_pos h4]
            unfold doDecomp at h ⊢
            split at h
            · cases h
            · cases h
            · split at h
              · cases h
              · rename_i h5
                rw [if_neg h5]
                split at h
                · cases h
                · rename_i h6
                  injection h with h
                  subst h
                  rw [if_neg h6]
                  exact ⟨_, rfl, rfl⟩
          · cases h
theorem doLine_words {st s : St} {w : List Bytes} {k : Int} (h : doLine st w k = .ok s) : doWords st.d w = some s.d := by
  obtain ⟨s', h1, h2⟩ := doLine_same (ls' := []) (k' := 0) (show doLine ⟨st.d, st.lines⟩ w k = .ok s from h)
  unfold doWords
  rw [h1, ← h2]
theorem doWords_line {st : St} {w : List Bytes} {d : PD} (k : Int) (h : doWords st.d w = some d) : ∃ s, doLine st w k = .ok s ∧ s.d = d := by
  unfold doWords at h
  split at h
  · rename_i s e
    injection h with h
    obtain ⟨s', h1, h2⟩ := doLine_same (ls' := st.lines) (k' := k) e
    exact ⟨s', h1, h2.trans h⟩
  · cases h
theorem doWords_nil (d : PD) : doWords d [] = some d := rfl
theorem lines_words : ∀ {ls : List Bytes} {st s : St} {k : Int}, doLines st ls k = .ok s → runWords st.d (ls.map wordsOf) = some s.d
  | [], st, s, k, h => by
    simp only [doLines, Except.ok.injEq] at h
    subst h
    rfl
  | l :: ls, st, s, k, h => by
    simp only [doLines] at h
    cases hl : doLine st (wordsOf l) k with
    | error e => rw [hl] at h; cases h
    | ok s1 =>
      rw [hl] at h
      simp only [List.map_cons, runWords, doLine_words hl]
      exact lines_words h
theorem words_lines : ∀ {ls : List Bytes} {st : St} {d : PD} (k : Int), runWords st.d (ls.map wordsOf) = some d → ∃ s, doLines st ls k = .ok s ∧ s.d = d
  | [], st, d, k, h => by
    simp only [List.map_nil, runWords, Option.some.injEq] at h
    exact ⟨st, rfl, h⟩
  | l :: ls, st, d, k, h => by
    simp only [List.map_cons, runWords] at h
    cases hw : doWords st.d (wordsOf l) with
    | none => rw [hw] at h; cases h
    | some d1 =>
      rw [hw] at h
      obtain ⟨s1, h1, h2⟩ := doWords_line k hw
      rw [← h2] at h
      obtain ⟨s, h3, h4⟩ := words_lines (k + 1) h
      exact ⟨s, by simp only [doLines, h1]; exact h3, h4⟩
/-- Lines that say nothing say nothing. -/
theorem run_filter : ∀ (ws : List (List Bytes)) (d : PD), runWords d (ws.filter (fun w => !w.isEmpty)) = runWords d ws
  | [], _ => rfl
  | w :: ws, d => by
    cases w with
    | nil => simp only [List.filter_cons, List.isEmpty_nil, Bool.not_true, Bool.false_eq_true, if_false, runWords, doWords_nil]; exact run_filter ws d
    | cons x w =>
      simp only [List.filter_cons, List.isEmpty_cons, Bool.not_false, if_true, runWords]
      cases doWords d (x :: w) with
      | none => rfl
      | some d' => exact run_filter ws d'
theorem run_append : ∀ (ws vs : List (List Bytes)) (d : PD), runWords d (ws ++ vs) = (runWords d ws).bind fun d' => runWords d' vs
  | [], _, _ => rfl
  | w :: ws, vs, d => by
    simp only [List.cons_append, runWords]
    cases doWords d w with
    | none => rfl
    | some d' => exact run_append ws vs d'

/-! ### a file -/
theorem badLeast_all {st : St} (h : badLeast st = none) : ∀ p ∈ st.lines, badOf st.d p.1 = none := ((bad_fold st.d st.lines none).1 h).2
/-- What is known of a file that is well-formed. -/
theorem parse_ok {s : Bytes} {D : PD} (h : parse s = .ok D) : ∃ st, doLines {} (pieces 10 s) 1 = .ok st ∧ badLeast st = none ∧ st.d = D ∧ StOk st := by
  unfold parse at h
  split at h
  · cases h
  · split at h
    · cases h
    · rename_i st e
      split at h
      · cases h
      · rename_i hb
        injection h with h
        exact ⟨st, e, hb, h, doLines_ok StOk.empty e⟩
theorem badOf_same {d d' : PD} (h : d'.decomps = d.decomps) (r : Int) : badOf d' r = badOf d r := by
  have h1 : ∀ r, decompOf d' r = decompOf d r := fun r => by unfold decompOf; rw [h]
  have h2 : ∀ k r, fullGo d' k r = fullGo d k r := by
    intro k
    induction k with
    | zero => intro r; rfl
    | succ k ih =>
      intro r
      have e : fullGo d' k = fullGo d k := funext ih
      rw [fullGo, fullGo, h1, e]
  have h3 : Full d' r = Full d r := funext fun n => by
    unfold Full
    exact propext ⟨fun ⟨k, hk⟩ => ⟨k, by rw [← h2]; exact hk⟩, fun ⟨k, hk⟩ => ⟨k, by rw [h2]; exact hk⟩⟩
  unfold badOf
  rw [h3]
theorem lineCount_le (s : Bytes) : lineCount s ≤ s.length + 1 := by
  unfold lineCount
  have := List.length_filter_le (· == 10) s
  split <;> omega
/-- Another file that says the same, or what another file says of other points too. -/
theorem parse_other {s t : Bytes} {D E : PD} (h : parse s = .ok D) (hl : t.length ≤ 65535) (hE : E.decomps = D.decomps) (hr : runWords {} ((pieces 10 t).map wordsOf) = some E) : parse t = .ok E := by
  obtain ⟨st, h1, h2, h3, h4⟩ := parse_ok h
  obtain ⟨s', k1, k2⟩ := words_lines (st := {}) (ls := pieces 10 t) 1 hr
  have hok := doLines_ok StOk.empty k1
  have hc := lineCount_le t
  have hb : badLeast s' = none := badLeast_none (fun p hp => by
    have hd : s'.d.decomps = st.d.decomps := by rw [k2, h3]; exact hE
    have : p.1 ∈ st.lines.map (·.1) := by
      rw [h4.keys, ← hd, ← hok.keys]
      exact List.mem_map.2 ⟨p, hp, rfl⟩
    obtain ⟨q, hq, e⟩ := List.mem_map.1 this
    rw [badOf_same hd, ← e]
    exact badLeast_all h2 q hq)
  unfold parse
  rw [if_neg (by omega), k1]
  simp only [hb, k2]

/-! ### pieces -/
theorem pieces_ne (c : UInt8) : ∀ l, pieces c l ≠ []
  | [] => by simp [pieces]
  | b :: l => by
    unfold pieces
    split
    · simp
    · split <;> simp
theorem pieces_cut (c : UInt8) : ∀ (a b : Bytes), c ∉ a → pieces c (a ++ c :: b) = a :: pieces c b
  | [], b, _ => by simp [pieces]
  | x :: a, b, h => by
    have hx : x ≠ c := fun e => h (by simp [e])
    have ih := pieces_cut c a b (fun h' => h (by simp [h']))
    rw [List.cons_append, pieces, if_neg hx, ih]
theorem pieces_one (c : UInt8) : ∀ (a : Bytes), c ∉ a → pieces c a = [a]
  | [], _ => rfl
  | x :: a, h => by
    have hx : x ≠ c := fun e => h (by simp [e])
    rw [pieces, if_neg hx, pieces_one c a (fun h' => h (by simp [h']))]
theorem pieces_append (c : UInt8) : ∀ (a b : Bytes), pieces c (a ++ c :: b) = pieces c a ++ pieces c b
  | [], b => by simp [pieces]
  | x :: a, b => by
    have ih := pieces_append c a b
    rw [List.cons_append, pieces, ih]
    by_cases hx : x = c
    · rw [if_pos hx]; simp [pieces, hx]
    · rw [if_neg hx, pieces, if_neg hx]
      cases hp : pieces c a with
      | nil => exact absurd hp (pieces_ne c a)
      | cons p ps => simp
/-- A text is one line, or a line and a text behind it. -/
theorem cut_cases (s : Bytes) : 10 ∉ s ∨ ∃ a b, s = a ++ 10 :: b ∧ 10 ∉ a ∧ b.length < s.length := by
  by_cases h : (10 : UInt8) ∈ s
  · obtain ⟨a, b, e, ha⟩ := List.eq_append_cons_of_mem h
    exact .inr ⟨a, b, e, ha, by rw [e]; simp; omega⟩
  · exact .inl h

/-! ### the file laid out another way -/
def turn : Bool → Bytes → Bytes
  | _, [] => []
  | r, c :: l =>
    if c = 13 ∧ (l = [] ∨ l.head? = some 10) then turn r l
    else if c = 32 ∧ r = false then 9 :: 32 :: 32 :: turn r l
    else if c = 10 then [32, 35, 32, 120, 13, 10, 32, 10] ++ turn false l
    else c :: turn (r || c == 35) l
/-- Of one line. -/
def turnL : Bool → Bytes → Bytes
  | _, [] => []
  | r, c :: l => if c = 32 ∧ r = false then 9 :: 32 :: 32 :: turnL r l else c :: turnL (r || c == 35) l
theorem stripCR_cons (c : UInt8) (l : Bytes) (h : l ≠ []) : stripCR (c :: l) = c :: stripCR l := by
  unfold stripCR
  rw [List.getLast?_cons, List.dropLast_cons_of_ne_nil h]
  cases hl : l.getLast? with
  | none => exact absurd (List.getLast?_eq_none_iff.1 hl) h
  | some x =>
    simp only [Option.getD_some]
    by_cases hx : x = 13
    · subst hx; simp
    · simp [hx]
theorem turn_line : ∀ (l : Bytes) (r : Bool) (s : Bytes), 10 ∉ l → turn r (l ++ 10 :: s) = turnL r (stripCR l) ++ [32, 35, 32, 120, 13, 10, 32, 10] ++ turn false s
  | [], r, s, _ => by simp [turn, stripCR, turnL]
  | c :: l, r, s, h => by
    have hc : c ≠ 10 := fun e => h (by simp [e])
    have hl : (10 : UInt8) ∉ l := fun e => h (by simp [e])
    rw [List.cons_append, turn]
    by_cases h0 : l = []
    · subst h0
      by_cases h13 : c = 13
      · subst h13
        rw [if_pos (by simp)]
        simp [turn, stripCR, turnL]
      · rw [if_neg (by simp [h13])]
        have e1 : stripCR [c] = [c] := by unfold stripCR; simp [h13]
        rw [e1]
        have ih := turn_line [] r s (by simp)
        have ih2 := turn_line [] (r || c == 35) s (by simp)
        simp only [List.nil_append] at ih ih2
        by_cases h32 : c = 32 ∧ r = false
        · rw [if_pos h32, List.nil_append, ih, turnL, if_pos h32]
          simp [turnL, stripCR]
        · rw [if_neg h32, if_neg hc, List.nil_append, ih2, turnL, if_neg h32]
          simp [turnL, stripCR]
    · rw [stripCR_cons c l h0]
      have hh : ¬ (c = 13 ∧ (l ++ 10 :: s = [] ∨ (l ++ 10 :: s).head? = some 10)) := by
        rintro ⟨_, h1 | h1⟩
        · simp at h1
        · cases l with
          | nil => exact h0 rfl
          | cons x l =>
            simp only [List.cons_append, List.head?_cons, Option.some.injEq] at h1
            exact hl (by simp [h1])
      rw [if_neg hh]
      by_cases h32 : c = 32 ∧ r = false
      · rw [if_pos h32, turn_line l r s hl, turnL, if_pos h32]
        simp
      · rw [if_neg h32, if_neg hc, turn_line l _ s hl, turnL, if_neg h32]
        simp
theorem turn_last : ∀ (l : Bytes) (r : Bool), 10 ∉ l → turn r l = turnL r (stripCR l)
  | [], r, _ => by simp [turn, stripCR, turnL]
  | c :: l, r, h => by
    have hc : c ≠ 10 := fun e => h (by simp [e])
    have hl : (10 : UInt8) ∉ l := fun e => h (by simp [e])
    rw [turn]
    by_cases h0 : l = []
    · subst h0
      by_cases h13 : c = 13
      · subst h13
        rw [if_pos (by simp)]
        simp [turn, stripCR, turnL]
      · rw [if_neg (by simp [h13])]
        have e1 : stripCR [c] = [c] := by unfold stripCR; simp [h13]
        rw [e1]
        by_cases h32 : c = 32 ∧ r = false
        · rw [if_pos h32, turnL, if_pos h32]; simp [turn, turnL]
        · rw [if_neg h32, if_neg hc, turnL, if_neg h32]; simp [turn, turnL]
    · rw [stripCR_cons c l h0]
      have hh : ¬ (c = 13 ∧ (l = [] ∨ l.head? = some 10)) := by
        rintro ⟨_, h1 | h1⟩
        · exact h0 h1
        · cases l with
          | nil => exact h0 rfl
          | cons x l =>
            simp only [List.head?_cons, Option.some.injEq] at h1
            exact hl (by simp [h1])
      rw [if_neg hh]
      by_cases h32 : c = 32 ∧ r = false
      · rw [if_pos h32, turn_last l r hl, turnL, if_pos h32]
      · rw [if_neg h32, if_neg hc, turn_last l _ hl, turnL, if_neg h32]
/-- Without the remark, and with the blanks made many. -/
def wide : Bytes → Bytes
  | [] => []
  | c :: l => if c = 32 then 9 :: 32 :: 32 :: wide l else c :: wide l
theorem hash_true : ∀ l : Bytes, turnL true l = l
  | [] => rfl
  | c :: l => by simp [turnL, hash_true l]
theorem hash_turn : ∀ l : Bytes, beforeHash (turnL false l) = wide (beforeHash l)
  | [] => rfl
  | c :: l => by
    have ih := hash_turn l
    unfold beforeHash at ih ⊢
    simp only [ne_eq, decide_not] at ih ⊢
    by_cases h : c = 32
    · subst h
      simp [turnL, wide]
      exact ih
    · by_cases h2 : c = 35
      · subst h2
        simp [turnL, wide]
      · have : (c == 35) = false := beq_eq_false_iff_ne.2 h2
        simp [turnL, h, h2, wide, this]
        exact ih
theorem wide_words : ∀ (l acc : Bytes), wordsGo (wide l) acc = wordsGo l acc
  | [], _ => rfl
  | c :: l, acc => by
    have e32 : isBlank 32 = true := rfl
    have e9 : isBlank 9 = true := rfl
    by_cases h : c = 32
    · subst h
      rw [wide, if_pos rfl]
      simp only [wordsGo, e32, e9, if_true]
      by_cases ha : acc = []
      · simp only [if_pos ha]; exact wide_words l []
      · simp only [if_neg ha]; rw [wide_words l []]
    · rw [wide, if_neg h]
      simp only [wordsGo]
      split
      · split
        · exact wide_words l []
        · rw [wide_words l []]
      · exact wide_words l _
theorem words_blank : ∀ (l acc : Bytes), wordsGo (l ++ [32]) acc = wordsGo l acc
  | [], acc => by
    have e32 : isBlank 32 = true := rfl
    by_cases ha : acc = [] <;> simp [wordsGo, e32, ha]
  | c :: l, acc => by
    rw [List.cons_append]
    simp only [wordsGo]
    split
    · split
      · exact words_blank l []
      · rw [words_blank l []]
    · exact words_blank l _
theorem strip_snoc (l : Bytes) : stripCR (l ++ [13]) = l := by
  unfold stripCR
  simp
theorem hash_append (a b : Bytes) : beforeHash (a ++ b) = if 35 ∈ a then beforeHash a else a ++ beforeHash b := by
  unfold beforeHash
  induction a with
  | nil => simp
  | cons c a ih =>
    by_cases h : c = 35
    · subst h; simp [List.takeWhile_cons]
    · have h' : ¬ (35 : UInt8) = c := fun e => h e.symm
      rw [List.cons_append, List.takeWhile_cons, List.takeWhile_cons, ih]
      by_cases h2 : (35 : UInt8) ∈ a <;> simp [h, h', h2]
theorem hash_none (a : Bytes) (h : 35 ∉ a) : beforeHash a = a := by
  have := hash_append a []
  rw [List.append_nil, if_neg h] at this
  simpa [beforeHash] using this
/-- The words of a line, and of it laid out another way, a remark behind it. -/
theorem words_turn (l : Bytes) : wordsOf (turnL false (stripCR l) ++ [32, 35, 32, 120, 13]) = wordsOf l := by
  unfold wordsOf
  generalize stripCR l = k
  have e : turnL false k ++ [32, 35, 32, 120, 13] = (turnL false k ++ [32, 35, 32, 120]) ++ [13] := by simp
  rw [e, strip_snoc, hash_append]
  split
  · rw [hash_turn, wide_words]
  · rename_i h
    have h1 := hash_turn k
    rw [hash_none _ h] at h1
    have h2 : beforeHash ([32, 35, 32, 120] : Bytes) = [32] := by decide
    rw [h2, words_blank, h1, wide_words]
/-- The last one: nothing behind it. -/
theorem words_turn_last (l : Bytes) (h : (stripCR l).getLast? ≠ some 13 ∨ 35 ∈ stripCR l) : wordsOf (turnL false (stripCR l)) = wordsOf l := by
  unfold wordsOf
  generalize stripCR l = k at *
  have hlast : ∀ (k : Bytes) (r : Bool), (turnL r k).getLast? = k.getLast? := by
    intro k
    induction k with
    | nil => intro r; rfl
    | cons c k ih =>
      intro r
      rw [turnL]
      split
      · rename_i hc
        rw [hc.1]
        simp [List.getLast?_cons, ih]
      · rw [List.getLast?_cons, List.getLast?_cons, ih]
  rcases h with h | h
  · have : stripCR (turnL false k) = turnL false k := by
      unfold stripCR
      rw [hlast, if_neg h]
    rw [this, hash_turn, wide_words]
  · have hm : ∀ (k : Bytes) (r : Bool), 35 ∈ k → 35 ∈ turnL r k := by
      intro k
      induction k with
      | nil => intro r h; cases h
      | cons c k ih =>
        intro r hk
        rw [turnL]
        split
        · rename_i hc
          rcases List.mem_cons.1 hk with e | hk
          · rw [hc.1] at e; cases e
          · simp [ih r hk]
        · rcases List.mem_cons.1 hk with e | hk
          · simp [e]
          · simp [ih _ hk]
    have hm' := hm k false h
    rw [show wordsGo (beforeHash k) [] = wordsGo (beforeHash (turnL false k)) [] by rw [hash_turn, wide_words]]
    unfold stripCR
    split
    · rename_i h13
      obtain ⟨a, ha⟩ : ∃ a, turnL false k = a ++ [13] := List.getLast?_eq_some_iff.1 h13
      rw [ha] at hm' ⊢
      have h35 : (35 : UInt8) ∈ a := by
        rcases List.mem_append.1 hm' with e | e
        · exact e
        · simp at e
      rw [List.dropLast_concat, hash_append, if_pos h35]
    · rfl

/-! ### a word with a 0D says nothing -/
theorem hexGo_no {l : Bytes} : ∀ {n m : Nat}, hexGo l n = some m → (13 : UInt8) ∉ l := by
  induction l with
  | nil => intro n m _; simp
  | cons c l ih =>
    intro n m h
    simp only [hexGo] at h
    cases hc : hexVal c with
    | none => rw [hc] at h; cases h
    | some d =>
      rw [hc] at h
      intro hm
      rcases List.mem_cons.1 hm with e | hm
      · subst e
        have h0 : hexVal 13 = none := by rfl
        rw [h0] at hc
        cases hc
      · exact ih h hm
theorem numberOf_no {l : Bytes} {n : Int} (h : numberOf l = some n) : (13 : UInt8) ∉ l := by
  unfold numberOf at h
  split at h
  · obtain ⟨m, hm, _⟩ := Option.map_eq_some_iff.1 h
    exact hexGo_no hm
  · cases h
theorem pointsOf_no : ∀ {w : List Bytes} {l : List Int}, pointsOf w = .ok l → ∀ x ∈ w, (13 : UInt8) ∉ x
  | [], _, _ => by simp
  | x :: w, l, h => by
    simp only [pointsOf] at h
    cases hp : pointOf x with
    | error e => rw [hp] at h; cases h
    | ok n =>
      rw [hp] at h
      simp only at h
      cases hq : pointsOf w with
      | error e => rw [hq] at h; cases h
      | ok ns =>
        intro y hy
        rcases List.mem_cons.1 hy with rfl | hy
        · unfold pointOf at hp
          split at hp
          · cases hp
          · rename_i e; exact numberOf_no e
        · exact pointsOf_no hq y hy
theorem dots_parts : ∀ {l a b : Bytes}, dots l = some (a, b) → l = a ++ 46 :: 46 :: b := by
  intro l
  induction l with
  | nil => intro a b h; cases h
  | cons c l ih =>
    intro a b h
    by_cases h2 : ∃ t, c :: l = 46 :: 46 :: t
    · obtain ⟨t, e⟩ := h2
      rw [e] at h ⊢
      simp only [dots, Option.some.injEq, Prod.mk.injEq] at h
      rw [← h.1, ← h.2]; rfl
    · have e : dots (c :: l) = (dots l).map fun p => (c :: p.1, p.2) := by
        conv => lhs; unfold dots
        split
        · rename_i e; exact absurd ⟨_, e⟩ h2
        · rename_i e; injection e with e1 e2; subst e1; subst e2; rfl
        · rename_i e; cases e
      rw [e] at h
      obtain ⟨⟨a', b'⟩, h1, h3⟩ := Option.map_eq_some_iff.1 h
      injection h3 with h3 h4
      subst h3; subst h4
      rw [ih h1]; rfl
theorem spanOf_no {l : Bytes} {p : Int × Int} (h : spanOf l = .ok p) : (13 : UInt8) ∉ l := by
  unfold spanOf at h
  cases hd : dots l with
  | none =>
    rw [hd] at h
    simp only at h
    cases hn : numberOf l with
    | none => rw [hn] at h; cases h
    | some n => exact numberOf_no hn
  | some q =>
    obtain ⟨a, b⟩ := q
    rw [hd] at h
    simp only at h
    rw [dots_parts hd]
    cases ha : numberOf a with
    | none => rw [ha] at h; cases h
    | some n =>
      cases hb : numberOf b with
      | none => rw [ha, hb] at h; cases h
      | some m =>
        have h1 := numberOf_no ha
        have h2 := numberOf_no hb
        intro hm
        rcases List.mem_append.1 hm with hm | hm
        · exact h1 hm
        · simp only [List.mem_cons] at hm
          rcases hm with e | e | hm
          · cases e
          · cases e
          · exact h2 hm
theorem threeOf_no {w : List Bytes} {p : Int × Int} (h : threeOf w = .ok p) : w.length = 3 ∧ (13 : UInt8) ∉ w.getD 1 [] := by
  unfold threeOf at h
  split at h
  · cases h
  · split at h
    · cases h
    · exact ⟨by omega, spanOf_no h⟩
theorem three_words {w : List Bytes} (hl : w.length = 3) {n : Bytes} {t : List Bytes} (hw : w = n :: t) (hn : (13 : UInt8) ∉ n) (h1 : (13 : UInt8) ∉ w.getD 1 []) (h2 : (13 : UInt8) ∉ w.getD 2 []) : ∀ x ∈ w, (13 : UInt8) ∉ x := by
  subst hw
  match t, hl with
  | [a, b], _ =>
    intro x hx
    simp only [List.mem_cons, List.not_mem_nil, or_false] at hx
    rcases hx with rfl | rfl | rfl
    · exact hn
    · exact h1
    · exact h2
theorem someOf_no {w : List Bytes} {l : List Int} (h : someOf w = .ok l) : ∀ x ∈ w.tail, (13 : UInt8) ∉ x := by
  unfold someOf at h
  split at h
  · cases h
  · split at h
    · cases h
    · exact pointsOf_no h
theorem doLine_no {st s : St} {w : List Bytes} {k : Int} (h : doLine st w k = .ok s) : ∀ x ∈ w, (13 : UInt8) ∉ x := by
  unfold doLine at h
  split at h
  · simp
  · rename_i n t
    split at h
    · rename_i hn
      unfold doClass at h
      split at h
      · cases h
      · rename_i lo hi e
        split at h
        · cases h
        · rename_i c e2
          obtain ⟨h3, h4⟩ := threeOf_no e
          refine three_words h3 rfl (by rw [hn]; decide) h4 ?_
          unfold classNo at e2
          split at e2
          · rename_i hc
            intro hm
            have := List.all_eq_true.1 hc.1 _ hm
            exact absurd this (by decide)
          · cases e2
    · split at h
      · rename_i hn
        unfold doKind at h
        split at h
        · cases h
        · rename_i lo hi e
          split at h
          · cases h
          · rename_i c e2
            obtain ⟨h3, h4⟩ := threeOf_no e
            refine three_words h3 rfl (by rw [hn]; decide) h4 ?_
            have hall : ∀ x ∈ kindNames, (13 : UInt8) ∉ x := by decide
            refine hall _ ?_
            rw [List.idxOf?_eq_some_iff] at e2
            obtain ⟨hlt, he, _⟩ := e2
            rw [← he]
            exact List.getElem_mem hlt
      · split at h
        · rename_i hn
          unfold doFold at h
          split at h
          · cases h
          · cases h
          · rename_i r l e
            have := someOf_no e
            intro x hx
            rcases List.mem_cons.1 hx with rfl | hx
            · rw [hn]; decide
            · exact this x hx
        · split at h
          · rename_i hn
            unfold doDecomp at h
            split at h
            · cases h
            · cases h
            · rename_i r l e
              have := someOf_no e
              intro x hx
              rcases List.mem_cons.1 hx with rfl | hx
              · rw [hn]; decide
              · exact this x hx
          · cases h
theorem words_in : ∀ (l acc : Bytes) (c : UInt8), isBlank c = false → (c ∈ l ∨ c ∈ acc) → ∃ x ∈ wordsGo l acc, c ∈ x
  | [], acc, c, _, h => by
    rcases h with h | h
    · cases h
    · have ha : acc ≠ [] := fun e => by rw [e] at h; cases h
      exact ⟨acc, by simp [wordsGo, ha], h⟩
  | b :: l, acc, c, hc, h => by
    simp only [wordsGo]
    by_cases hb : isBlank b = true
    · rw [if_pos hb]
      have hne : c ≠ b := fun e => by rw [e, hb] at hc; cases hc
      by_cases ha : acc = []
      · rw [if_pos ha]
        refine words_in l [] c hc (.inl ?_)
        rcases h with h | h
        · exact (List.mem_cons.1 h).resolve_left hne
        · rw [ha] at h; cases h
      · rw [if_neg ha]
        rcases h with h | h
        · obtain ⟨x, h1, h2⟩ := words_in l [] c hc (.inl ((List.mem_cons.1 h).resolve_left hne))
          exact ⟨x, by simp [h1], h2⟩
        · exact ⟨acc, by simp, h⟩
    · rw [if_neg hb]
      refine words_in l _ c hc ?_
      rcases h with h | h
      · rcases List.mem_cons.1 h with rfl | h
        · exact .inr (by simp)
        · exact .inl h
      · exact .inr (by simp [h])
/-- A line that stands: it does not end in a 0D behind another 0D, or a remark stands ahead. -/
theorem line_last {d e : PD} {l : Bytes} (h : doWords d (wordsOf l) = some e) : (stripCR l).getLast? ≠ some 13 ∨ 35 ∈ stripCR l := by
  by_cases h35 : (35 : UInt8) ∈ stripCR l
  · exact .inr h35
  · refine .inl fun h13 => ?_
    have hm : (13 : UInt8) ∈ beforeHash (stripCR l) := by
      rw [hash_none _ h35]
      exact List.mem_of_getLast? h13
    obtain ⟨x, h1, h2⟩ := words_in (beforeHash (stripCR l)) [] 13 rfl (.inl hm)
    unfold doWords at h
    split at h
    · rename_i s hs
      exact doLine_no hs x h1 h2
    · cases h

/-! ### the laws -/
theorem turn_run : ∀ (n : Nat) (s : Bytes), s.length ≤ n → ∀ (d e : PD), runWords d ((pieces 10 s).map wordsOf) = some e → runWords d ((pieces 10 (turn false s)).map wordsOf) = some e
  | n, s, hn, d, e, h => by
    rcases cut_cases s with h10 | ⟨a, b, rfl, ha, hb⟩
    · rw [pieces_one 10 s h10] at h
      have hno : (10 : UInt8) ∉ turnL false (stripCR s) := by
        have hs : (10 : UInt8) ∉ stripCR s := by
          unfold stripCR
          split
          · exact fun hm => h10 ((List.dropLast_sublist _).subset hm)
          · exact h10
        exact turnL_no _ false hs
      rw [turn_last s false h10, pieces_one 10 _ hno]
      have hl : (stripCR s).getLast? ≠ some 13 ∨ 35 ∈ stripCR s := by
        simp only [List.map_cons, List.map_nil, runWords] at h
        cases hw : doWords d (wordsOf s) with
        | none => rw [hw] at h; cases h
        | some d' => exact line_last hw
      simp only [List.map_cons, List.map_nil, words_turn_last s hl]
      exact h
    · rw [pieces_cut 10 a b ha] at h
      have hno : (10 : UInt8) ∉ turnL false (stripCR a) ++ [32, 35, 32, 120, 13] := by
        have hs : (10 : UInt8) ∉ stripCR a := by
          unfold stripCR
          split
          · exact fun hm => ha ((List.dropLast_sublist _).subset hm)
          · exact ha
        intro hm
        rcases List.mem_append.1 hm with hm | hm
        · exact turnL_no _ false hs hm
        · exact absurd hm (by decide)
      rw [turn_line a false b ha]
      have e1 : turnL false (stripCR a) ++ [32, 35, 32, 120, 13, 10, 32, 10] ++ turn false b = (turnL false (stripCR a) ++ [32, 35, 32, 120, 13]) ++ 10 :: ([32] ++ 10 :: turn false b) := by simp
      rw [e1, pieces_cut 10 _ _ hno, pieces_cut 10 [32] _ (by decide)]
      simp only [List.map_cons, words_turn a, runWords] at h ⊢
      have hw32 : wordsOf [32] = [] := by decide
      rw [hw32]
      cases hw : doWords d (wordsOf a) with
      | none => rw [hw] at h; cases h
      | some d' =>
        rw [hw] at h
        simp only [doWords_nil] at h ⊢
        cases n with
        | zero => simp at hn
        | succ n => exact turn_run n b (by omega) d' e h
where
  turnL_no (l : Bytes) (r : Bool) (h : (10 : UInt8) ∉ l) : (10 : UInt8) ∉ turnL r l := by
    induction l generalizing r with
    | nil => simp [turnL]
    | cons c l ih =>
      have hc : ¬ (10 : UInt8) = c := fun e => h (by simp [e])
      have hl : (10 : UInt8) ∉ l := fun e => h (by simp [e])
      rw [turnL]
      split
      · simp [ih r hl]
      · simp [ih _ hl, hc]
theorem turn_length : ∀ (l : Bytes) (r : Bool), (turn r l).length ≤ 8 * l.length
  | [], _ => by simp [turn]
  | c :: l, r => by
    rw [turn]
    have h1 := turn_length l r
    have h2 := turn_length l false
    have h3 := turn_length l (r || c == 35)
    split
    · simp; omega
    · split
      · simp; omega
      · split
        · simp; omega
        · simp; omega
/-- P6.6: the same file, laid out another way, a remark ahead of it. -/
theorem parse_turn {s note : Bytes} {D : PD} (h : parse s = .ok D) (hs : s.length ≤ 4096) (hn : note.length ≤ 4096) :
    parse ([9, 32, 35, 32] ++ note.filter (fun c => c ≠ 10) ++ [10, 13, 10] ++ turn false s) = .ok D := by
  obtain ⟨st, h1, h2, h3, h4⟩ := parse_ok h
  have hr := lines_words h1
  rw [h3] at hr
  have hl := turn_length s false
  have hf := List.length_filter_le (fun c : UInt8 => decide (c ≠ 10)) note
  refine parse_other h (by simp only [List.length_append, List.length_cons, List.length_nil]; omega) rfl ?_
  have hno : (10 : UInt8) ∉ [9, 32, 35, 32] ++ note.filter (fun c => c ≠ 10) := by
    intro hm
    rcases List.mem_append.1 hm with hm | hm
    · exact absurd hm (by decide)
    · simpa using (List.mem_filter.1 hm).2
  have e1 : [9, 32, 35, 32] ++ note.filter (fun c => c ≠ 10) ++ [10, 13, 10] ++ turn false s = ([9, 32, 35, 32] ++ note.filter (fun c => c ≠ 10)) ++ 10 :: ([13] ++ 10 :: turn false s) := by simp
  rw [e1, pieces_cut 10 _ _ hno, pieces_cut 10 [13] _ (by decide)]
  simp only [List.map_cons, runWords]
  have w1 : wordsOf ([9, 32, 35, 32] ++ note.filter (fun c => c ≠ 10)) = [] := by
    unfold wordsOf
    have e2 : beforeHash (stripCR ([9, 32, 35, 32] ++ note.filter (fun c => decide (c ≠ 10)))) = [9, 32] := by
      generalize note.filter (fun c => decide (c ≠ 10)) = m
      have : ∃ t, stripCR ([9, 32, 35, 32] ++ m) = [9, 32, 35] ++ t := by
        unfold stripCR
        split
        · cases m with
          | nil => exact ⟨[], by decide⟩
          | cons x m => exact ⟨([32] ++ (x :: m)).dropLast, by simp [List.dropLast]⟩
        · exact ⟨32 :: m, by simp⟩
      obtain ⟨t, ht⟩ := this
      rw [ht, hash_append, if_pos (by decide)]
      decide
    rw [e2]
    decide
  rw [w1]
  have w2 : wordsOf [13] = [] := by decide
  rw [w2]
  simp only [doWords_nil]
  exact turn_run _ s (Nat.le_refl _) {} D hr

/-- Two lines behind a file. -/
def moreText : Bytes := [99, 108, 97, 115, 115, 32, 50, 70, 65, 48, 48, 32, 55, 55, 10, 107, 105, 110, 100, 32, 50, 70, 65, 48, 48, 46, 46, 50, 70, 65, 48, 49, 32, 106, 111, 105, 110, 101, 114]
def moreOf (D : PD) : PD := { D with classes := D.classes ++ [⟨195072, 195072, 77⟩], kinds := D.kinds ++ [⟨195072, 195073, 6⟩] }
theorem parse_more {s : Bytes} {D : PD} (h : parse s = .ok D) (hs : s.length ≤ 4096) : parse (s ++ 10 :: moreText) = .ok (moreOf D) := by
  obtain ⟨st, h1, h2, h3, h4⟩ := parse_ok h
  have hr := lines_words h1
  rw [h3] at hr
  refine parse_other h (by simp only [List.length_append, List.length_cons, moreText, List.length_nil]; omega) rfl ?_
  rw [pieces_append, List.map_append, run_append, hr]
  rfl
theorem said_snoc (l : List Row) (x : Row) (r o : Int) : said (l ++ [x]) r o = if x.has r then x.n else said l r o := by
  unfold said
  rw [List.reverse_append, List.reverse_cons, List.reverse_nil, List.nil_append, List.singleton_append, List.find?_cons]
  cases x.has r <;> simp
theorem more_class (D : PD) (r : Int) (h : r ≠ 195072) : classOf (moreOf D) r = classOf D r := by
  unfold classOf moreOf
  simp only [said_snoc]
  have : (⟨195072, 195072, 77⟩ : Row).has r = false := by
    unfold Row.has
    simp only [Bool.and_eq_false_iff, decide_eq_false_iff_not]
    omega
  rw [this]
  rfl
theorem more_kind (D : PD) (r : Int) (h : r ≠ 195072) (h' : r ≠ 195073) : kindOf (moreOf D) r = kindOf D r := by
  unfold kindOf moreOf
  simp only [said_snoc]
  have : (⟨195072, 195073, 6⟩ : Row).has r = false := by
    unfold Row.has
    simp only [Bool.and_eq_false_iff, decide_eq_false_iff_not]
    omega
  rw [this]
  rfl
theorem more_comp (D : PD) (r b : Int) (h : r ≠ 195072) : composeOf (moreOf D) r b = composeOf D r b := by
  unfold composeOf
  rw [more_class D r h]
  rfl
theorem more_told (D : PD) : classOf (moreOf D) 195072 = 77 ∧ kindOf (moreOf D) 195073 = 6 := by
  constructor
  · unfold classOf moreOf
    simp only [said_snoc]
    rfl
  · unfold kindOf moreOf
    simp only [said_snoc]
    rfl
end Go.Proofs.YtikpkjpnehkbfaaGreatDoor.Sp
