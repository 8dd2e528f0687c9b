/- What a file of properties says, in plain Lean: lists of bytes, numbers, rows. No program and no memory here; Maps as the model has them, entry by entry: a look-up and a store at a key that is a whole number, a text, or two whole numbers. Plain laws of memory, over any program. -/
import Derived.RowKit
import Derived.WalkKit
import Derived.OwnWalk
import Derived.Below
import Derived.MapKept
set_option linter.unusedSimpArgs false
namespace Go.Proofs.YtikpkjpnehkbfaaGreatDoor.Sp
def isChar (r : Int) : Bool := decide (0 ≤ r) && decide (r ≤ 1114111) && (decide (r < 55296) || decide (57343 < r))
def isSyl (r : Int) : Bool := decide (44032 ≤ r) && decide (r < 55204)
def isJamo (r : Int) : Bool := (decide (4352 ≤ r) && decide (r < 4371)) || (decide (4449 ≤ r) && decide (r < 4470)) || (decide (4519 < r) && decide (r < 4547))
structure Row where
  lo : Int
  hi : Int
  n : Int
structure PD where
  classes : List Row := []
  kinds : List Row := []
  folds : List (Int × List Int) := []
  decomps : List (Int × List Int) := []
def Row.has (x : Row) (r : Int) : Bool := decide (x.lo ≤ r) && decide (r ≤ x.hi)
def said (l : List Row) (r other : Int) : Int :=
  match l.reverse.find? (fun x => x.has r) with
  | some x => x.n
  | none => other
def lookD (l : List (Int × List Int)) (r : Int) : Option (List Int) := (l.find? fun p => p.1 == r).map (·.2)
def classOf (D : PD) (r : Int) : Int := if !isChar r || isSyl r || isJamo r then 0 else said D.classes r 0
def sylOf (r : Int) : List Int :=
  let n := r - 44032
  [4352 + n / 588, 4449 + n / 28 % 21] ++ (if n % 28 = 0 then [] else [4519 + n % 28])
def decompOf (D : PD) (r : Int) : List Int := if isSyl r then sylOf r else (lookD D.decomps r).getD []
def least (l : List (Int × List Int)) (a b : Int) : Option Int :=
  l.foldl (fun m p => if p.2 = [a, b] then (match m with | none => some p.1 | some x => if p.1 < x then some p.1 else some x) else m) none
def composeOf (D : PD) (a b : Int) : Option Int :=
  if 4352 ≤ a ∧ a < 4371 ∧ 4449 ≤ b ∧ b < 4470 then some (44032 + ((a - 4352) * 21 + b - 4449) * 28)
  else if isSyl a = true ∧ (a - 44032) % 28 = 0 ∧ 4519 < b ∧ b < 4547 then some (a + b - 4519)
  else if classOf D a ≠ 0 then none
  else least D.decomps a b
abbrev Bytes := List UInt8
def pieces (c : UInt8) : Bytes → List Bytes
  | [] => [[]]
  | b :: l => if b = c then [] :: pieces c l else (match pieces c l with | [] => [[b]] | p :: ps => (b :: p) :: ps)
def stripCR (l : Bytes) : Bytes := if l.getLast? = some 13 then l.dropLast else l
def beforeHash (l : Bytes) : Bytes := l.takeWhile (· ≠ 35)
def isBlank (c : UInt8) : Bool := c == 32 || c == 9
def wordsGo : Bytes → Bytes → List Bytes
  | [], w => if w = [] then [] else [w]
  | c :: l, w => if isBlank c then (if w = [] then wordsGo l [] else w :: wordsGo l []) else wordsGo l (w ++ [c])
def wordsOf (l : Bytes) : List Bytes := wordsGo (beforeHash (stripCR l)) []
def hexVal (c : UInt8) : Option Nat :=
  if 48 ≤ c ∧ c ≤ 57 then some (c.toNat - 48)
  else if 97 ≤ c ∧ c ≤ 102 then some (c.toNat - 87)
  else if 65 ≤ c ∧ c ≤ 70 then some (c.toNat - 55)
  else none
def hexGo : Bytes → Nat → Option Nat
  | [], n => some n
  | c :: l, n => match hexVal c with | none => none | some d => hexGo l (16 * n + d)
def numberOf (l : Bytes) : Option Int := if 4 ≤ l.length ∧ l.length ≤ 6 then (hexGo l 0).map Int.ofNat else none
def pointOf (l : Bytes) : Except Int Int :=
  match numberOf l with
  | none => .error 11
  | some n => if isChar n then .ok n else .error 8
def dots : Bytes → Option (Bytes × Bytes)
  | 46 :: 46 :: l => some ([], l)
  | c :: l => (dots l).map fun p => (c :: p.1, p.2)
  | [] => none
def spanOf (l : Bytes) : Except Int (Int × Int) :=
  let (a, b) := match dots l with | some p => p | none => (l, l)
  match numberOf a, numberOf b with
  | some x, some y => if isChar x && isChar y then (if y < x then .error 1 else .ok (x, y)) else .error 8
  | _, _ => .error 11
def threeOf (w : List Bytes) : Except Int (Int × Int) :=
  if w.length < 3 then .error 2 else if 3 < w.length then .error 3 else spanOf (w.getD 1 [])
def isDigit (c : UInt8) : Bool := decide (48 ≤ c) && decide (c ≤ 57)
def decGo : Bytes → Nat → Nat
  | [], n => n
  | c :: l, n => decGo l (10 * n + (c.toNat - 48))
def classNo (l : Bytes) : Except Int Int :=
  if l.all isDigit = true ∧ l ≠ [] ∧ ¬ (1 < l.length ∧ l.head? = some 48) then (if 254 < decGo l 0 then .error 1 else .ok (decGo l 0)) else .error 11
def kindNames : List Bytes := [[111, 116, 104, 101, 114], [108, 101, 116, 116, 101, 114], [100, 105, 103, 105, 116], [109, 97, 114, 107], [115, 112, 97, 99, 101], [99, 111, 110, 116, 114, 111, 108], [106, 111, 105, 110, 101, 114], [109, 105, 100, 100, 108, 101]]
def pointsOf : List Bytes → Except Int (List Int)
  | [] => .ok []
  | w :: l => match pointOf w with | .error e => .error e | .ok n => (match pointsOf l with | .error e => .error e | .ok ns => .ok (n :: ns))
def someOf (w : List Bytes) : Except Int (List Int) := if w.length < 3 then .error 2 else if 10 < w.length then .error 5 else pointsOf w.tail
structure St where
  d : PD := {}
  lines : List (Int × Int) := []
def nameClass : Bytes := [99, 108, 97, 115, 115]
def nameKind : Bytes := [107, 105, 110, 100]
def nameFold : Bytes := [102, 111, 108, 100]
def nameDecomp : Bytes := [100, 101, 99, 111, 109, 112]
def doClass (s : St) (w : List Bytes) : Except Int St :=
  match threeOf w with
  | .error e => .error e
  | .ok (lo, hi) => match classNo (w.getD 2 []) with
    | .error e => .error e
    | .ok n => .ok { s with d := { s.d with classes := s.d.classes ++ [⟨lo, hi, n⟩] } }
def doKind (s : St) (w : List Bytes) : Except Int St :=
  match threeOf w with
  | .error e => .error e
  | .ok (lo, hi) => match kindNames.idxOf? (w.getD 2 []) with
    | none => .error 12
    | some n => .ok { s with d := { s.d with kinds := s.d.kinds ++ [⟨lo, hi, n⟩] } }
def doFold (s : St) (w : List Bytes) : Except Int St :=
  match someOf w with
  | .error e => .error e
  | .ok [] => .error 2
  | .ok (r :: l) => if (lookD s.d.folds r).isSome then .error 13 else .ok { s with d := { s.d with folds := s.d.folds ++ [(r, l)] } }
def doDecomp (s : St) (w : List Bytes) (line : Int) : Except Int St :=
  match someOf w with
  | .error e => .error e
  | .ok [] => .error 2
  | .ok (r :: l) => if (lookD s.d.decomps r).isSome then .error 13 else if isSyl r || isJamo r then .error 1
    else .ok { d := { s.d with decomps := s.d.decomps ++ [(r, l)] }, lines := s.lines ++ [(r, line)] }
def doLine (s : St) (w : List Bytes) (line : Int) : Except Int St :=
  match w with
  | [] => .ok s
  | n :: _ => if n = nameClass then doClass s w else if n = nameKind then doKind s w else if n = nameFold then doFold s w else if n = nameDecomp then doDecomp s w line else .error 12
def doLines (s : St) : List Bytes → Int → Except (Int × Int) St
  | [], _ => .ok s
  | l :: ls, k => match doLine s (wordsOf l) k with
    | .error e => .error (e, k)
    | .ok s' => doLines s' ls (k + 1)
def sumOf (f : Int → Option Nat) (l : List Int) : Option Nat := l.foldl (fun m q => match m, f q with | some a, some b => some (min (a + b) 9) | _, _ => none) (some 0)
def fullGo (D : PD) : Nat → Int → Option Nat
  | 0, _ => none
  | k + 1, r => if decompOf D r = [] then some 1 else sumOf (fullGo D k) (decompOf D r)
def Full (D : PD) (r : Int) (n : Nat) : Prop := ∃ k, fullGo D k r = some n
open Classical in
noncomputable def badOf (D : PD) (r : Int) : Option Int := if ∃ n, Full D r n ∧ n ≤ 8 then none else if ∃ n, Full D r n then some 5 else some 14
noncomputable def badLeast (s : St) : Option (Int × Int × Int) :=
  s.lines.foldl (fun m p => match badOf s.d p.1 with | none => m | some e => (match m with | none => some (p.1, e, p.2) | some x => if p.1 < x.1 then some (p.1, e, p.2) else m)) none
def lineCount (s : Bytes) : Nat := (s.filter (· == 10)).length + (if s ≠ [] ∧ s.getLast? ≠ some 10 then 1 else 0)
noncomputable def parse (s : Bytes) : Except (Int × Option Int) PD :=
  if 1048576 < s.length ∨ 65536 < lineCount s then .error (5, none)
  else match doLines {} (pieces 10 s) 1 with
    | .error (e, k) => .error (e, some k)
    | .ok st => match badLeast st with
      | some (_, e, k) => .error (e, some k)
      | none => .ok st.d
end Go.Proofs.YtikpkjpnehkbfaaGreatDoor.Sp
namespace Go.Proofs.YtikpkjpnehkbfaaGreatDoor.Sp
def sumFrom (f : Int → Option Nat) (m : Option Nat) (l : List Int) : Option Nat := l.foldl (fun m q => match m, f q with | some a, some b => some (min (a + b) 9) | _, _ => none) m
theorem sumFrom_none (f : Int → Option Nat) : ∀ l, sumFrom f none l = none
  | [] => rfl
  | q :: l => by unfold sumFrom; rw [List.foldl_cons]; exact sumFrom_none f l
theorem sumFrom_cons (f : Int → Option Nat) (a : Nat) (q : Int) (l : List Int) : sumFrom f (some a) (q :: l) = match f q with | some b => sumFrom f (some (min (a + b) 9)) l | none => none := by
  unfold sumFrom
  rw [List.foldl_cons]
  cases f q with
  | none => exact sumFrom_none f l
  | some b => rfl
theorem sumOf_from (f : Int → Option Nat) (l : List Int) : sumOf f l = sumFrom f (some 0) l := rfl
theorem sumFrom_mono {f g : Int → Option Nat} (h : ∀ q n, f q = some n → g q = some n) : ∀ (l : List Int) (a n : Nat), sumFrom f (some a) l = some n → sumFrom g (some a) l = some n
  | [], _, _, e => e
  | q :: l, a, n, e => by
    rw [sumFrom_cons] at e ⊢
    cases hq : f q with
    | none => rw [hq] at e; cases e
    | some b =>
      rw [hq] at e
      rw [h q b hq]
      exact sumFrom_mono h l _ n e
theorem sumFrom_parts {f : Int → Option Nat} : ∀ (l : List Int) (a n : Nat), sumFrom f (some a) l = some n → ∀ q ∈ l, ∃ b, f q = some b
  | [], _, _, _ => by simp
  | q :: l, a, n, e => by
    rw [sumFrom_cons] at e
    cases hq : f q with
    | none => rw [hq] at e; cases e
    | some b =>
      rw [hq] at e
      intro x hx
      rcases List.mem_cons.1 hx with rfl | hx
      · exact ⟨b, hq⟩
      · exact sumFrom_parts l _ n e x hx
theorem sumFrom_le {f : Int → Option Nat} : ∀ (l : List Int) (a n : Nat), a ≤ 9 → sumFrom f (some a) l = some n → n ≤ 9
  | [], a, n, ha, e => by unfold sumFrom at e; simp only [List.foldl_nil, Option.some.injEq] at e; omega
  | q :: l, a, n, ha, e => by
    rw [sumFrom_cons] at e
    cases hq : f q with
    | none => rw [hq] at e; cases e
    | some b =>
      rw [hq] at e
      exact sumFrom_le l _ n (by omega) e
theorem sumFrom_ge {f : Int → Option Nat} : ∀ (l : List Int) (a n : Nat), a ≤ 9 → sumFrom f (some a) l = some n → a ≤ n
  | [], a, n, ha, e => by unfold sumFrom at e; simp only [List.foldl_nil, Option.some.injEq] at e; omega
  | q :: l, a, n, ha, e => by
    rw [sumFrom_cons] at e
    cases hq : f q with
    | none => rw [hq] at e; cases e
    | some b =>
      rw [hq] at e
      have := sumFrom_ge l _ n (by omega) e
      omega
theorem fullGo_succ (D : PD) : ∀ (k : Nat) (r : Int) (n : Nat), fullGo D k r = some n → fullGo D (k + 1) r = some n
  | 0, _, _, e => by cases e
  | k + 1, r, n, e => by
    rw [fullGo] at e ⊢
    by_cases hd : decompOf D r = []
    · rw [if_pos hd] at e ⊢; exact e
    · rw [if_neg hd] at e ⊢
      exact sumFrom_mono (fun q n h => fullGo_succ D k q n h) _ 0 n e
theorem fullGo_le (D : PD) {k k' : Nat} (h : k ≤ k') {r : Int} {n : Nat} (e : fullGo D k r = some n) : fullGo D k' r = some n := by
  induction h with
  | refl => exact e
  | step _ ih => exact fullGo_succ D _ r n ih
theorem Full.unique {D : PD} {r : Int} {n m : Nat} (h : Full D r n) (h' : Full D r m) : n = m := by
  obtain ⟨k, hk⟩ := h
  obtain ⟨k', hk'⟩ := h'
  have e1 := fullGo_le D (Nat.le_max_left k k') hk
  have e2 := fullGo_le D (Nat.le_max_right k k') hk'
  rw [e1] at e2
  injection e2
theorem fullGo_pos (D : PD) : ∀ (k : Nat) (r : Int) (n : Nat), fullGo D k r = some n → 1 ≤ n ∧ n ≤ 9
  | 0, _, _, e => by cases e
  | k + 1, r, n, e => by
    rw [fullGo] at e
    by_cases hd : decompOf D r = []
    · rw [if_pos hd] at e; simp only [Option.some.injEq] at e; omega
    · rw [if_neg hd] at e
      cases hl : decompOf D r with
      | nil => exact absurd hl hd
      | cons q l =>
        rw [hl, sumOf_from, sumFrom_cons] at e
        cases hq : fullGo D k q with
        | none => rw [hq] at e; cases e
        | some b =>
          rw [hq] at e
          have hb := fullGo_pos D k q b hq
          have := sumFrom_ge _ _ _ (by omega) e
          exact ⟨by omega, sumFrom_le _ _ _ (by omega) e⟩
theorem Full.pos {D : PD} {r : Int} {n : Nat} (h : Full D r n) : 1 ≤ n ∧ n ≤ 9 := by
  obtain ⟨k, hk⟩ := h
  exact fullGo_pos D k r n hk
theorem Full.leaf {D : PD} {r : Int} (h : decompOf D r = []) : Full D r 1 := ⟨1, by rw [fullGo, if_pos h]⟩
inductive Sums (D : PD) : Nat → List Int → Nat → Prop
  | nil (a : Nat) : Sums D a [] a
  | cons (a b n : Nat) (q : Int) (l : List Int) : Full D q b → Sums D (min (a + b) 9) l n → Sums D a (q :: l) n
theorem Sums.go {D : PD} {a n : Nat} {l : List Int} (h : Sums D a l n) : ∃ k, sumFrom (fullGo D k) (some a) l = some n := by
  induction h with
  | nil a => exact ⟨0, rfl⟩
  | cons a b n q l hq _ ih =>
    obtain ⟨k1, h1⟩ := hq
    obtain ⟨k2, h2⟩ := ih
    refine ⟨max k1 k2, ?_⟩
    rw [sumFrom_cons, fullGo_le D (Nat.le_max_left k1 k2) h1]
    exact sumFrom_mono (fun q n e => fullGo_le D (Nat.le_max_right k1 k2) e) _ _ _ h2
theorem Sums.full {D : PD} {r : Int} {n : Nat} (hd : decompOf D r ≠ []) (h : Sums D 0 (decompOf D r) n) : Full D r n := by
  obtain ⟨k, hk⟩ := h.go
  exact ⟨k + 1, by rw [fullGo, if_neg hd, sumOf_from]; exact hk⟩
theorem Sums.of_go {D : PD} {k : Nat} : ∀ {l : List Int} {a n : Nat}, sumFrom (fullGo D k) (some a) l = some n → Sums D a l n
  | [], a, n, e => by
    unfold sumFrom at e
    simp only [List.foldl_nil, Option.some.injEq] at e
    subst e
    exact .nil _
  | q :: l, a, n, e => by
    rw [sumFrom_cons] at e
    cases hq : fullGo D k q with
    | none => rw [hq] at e; cases e
    | some b =>
      rw [hq] at e
      exact .cons a b n q l ⟨k, hq⟩ (Sums.of_go e)
theorem Full.sums {D : PD} {r : Int} {n : Nat} (h : Full D r n) (hd : decompOf D r ≠ []) : Sums D 0 (decompOf D r) n := by
  obtain ⟨k, hk⟩ := h
  cases k with
  | zero => cases hk
  | succ k =>
    rw [fullGo, if_neg hd, sumOf_from] at hk
    exact Sums.of_go hk
theorem Sums.snoc {D : PD} {a m b : Nat} {l : List Int} {q : Int} (h : Sums D a l m) (hq : Full D q b) : Sums D a (l ++ [q]) (min (m + b) 9) := by
  induction h with
  | nil a => exact .cons a b _ q [] hq (.nil _)
  | cons a c n x l hx _ ih => exact .cons a c _ x _ hx ih
inductive Leads (D : PD) : Int → Int → Prop
  | one (r q : Int) : q ∈ decompOf D r → Leads D r q
  | more (r q x : Int) : Leads D r q → x ∈ decompOf D q → Leads D r x
theorem leads_go (D : PD) {r q : Int} (h : Leads D r q) : ∀ k n, fullGo D k r = some n → ∃ k', k' < k ∧ ∃ m, fullGo D k' q = some m := by
  have step : ∀ (r q : Int) k n, fullGo D k r = some n → q ∈ decompOf D r → ∃ k', k' < k ∧ ∃ m, fullGo D k' q = some m := by
    intro r q k n e hq
    cases k with
    | zero => cases e
    | succ k =>
      rw [fullGo] at e
      by_cases hd : decompOf D r = []
      · rw [hd] at hq; cases hq
      · rw [if_neg hd] at e
        exact ⟨k, by omega, sumFrom_parts _ _ _ e q hq⟩
  induction h with
  | one q hq => exact fun k n e => step r q k n e hq
  | more q x _ hx ih =>
    intro k n e
    obtain ⟨k', hk', m, hm⟩ := ih k n e
    obtain ⟨k'', hk'', m', hm'⟩ := step q x k' m hm hx
    exact ⟨k'', by omega, m', hm'⟩
theorem Leads.loop {D : PD} {r : Int} (h : Leads D r r) (n : Nat) : ¬ Full D r n := by
  rintro ⟨k, hk⟩
  have key : ∀ k, ∀ n, fullGo D k r ≠ some n := by
    intro k
    induction k using Nat.strongRecOn with
    | _ k ih =>
      intro n hn
      obtain ⟨k', hk', m, hm⟩ := leads_go D h k n hn
      exact ih k' hk' m hm
  exact key k n hk
theorem Leads.none {D : PD} {r q : Int} (h : Leads D r q) (hq : ∀ n, ¬ Full D q n) (n : Nat) : ¬ Full D r n := by
  rintro ⟨k, hk⟩
  obtain ⟨k', _, m, hm⟩ := leads_go D h k n hk
  exact hq m ⟨k', hm⟩
theorem badOf_none {D : PD} {r : Int} {n : Nat} (h : Full D r n) (hn : n ≤ 8) : badOf D r = none := by
  unfold badOf
  rw [if_pos ⟨n, h, hn⟩]
theorem badOf_many {D : PD} {r : Int} {n : Nat} (h : Full D r n) (hn : 8 < n) : badOf D r = some 5 := by
  unfold badOf
  rw [if_neg (by rintro ⟨m, hm, h8⟩; have := h.unique hm; omega), if_pos ⟨n, h⟩]
theorem badOf_loop {D : PD} {r : Int} (h : ∀ n, ¬ Full D r n) : badOf D r = some 14 := by
  unfold badOf
  rw [if_neg (by rintro ⟨m, hm, _⟩; exact h m hm), if_neg (by rintro ⟨m, hm⟩; exact h m hm)]
end Go.Proofs.YtikpkjpnehkbfaaGreatDoor.Sp
namespace Go.Proofs.YtikpkjpnehkbfaaGreatDoor.Sp
structure StOk (st : St) : Prop where
  f8 : ∀ q ∈ st.d.folds, q.2.length ≤ 8
  d8 : ∀ q ∈ st.d.decomps, q.2.length ≤ 8 ∧ q.2 ≠ []
  keys : st.lines.map (·.1) = st.d.decomps.map (·.1)
  nodup : (st.d.decomps.map (·.1)).Nodup
  plain : ∀ q ∈ st.d.decomps, isSyl q.1 = false ∧ isJamo q.1 = false
  chars : ∀ q ∈ st.d.decomps, isChar q.1 = true ∧ ∀ x ∈ q.2, isChar x = true
  fchars : ∀ q ∈ st.d.folds, isChar q.1 = true ∧ ∀ x ∈ q.2, isChar x = true
theorem StOk.empty : StOk {} := ⟨by simp, by simp, rfl, by simp, by simp, by simp, by simp⟩
theorem lookD_none {l : List (Int × List Int)} {r : Int} : lookD l r = none ↔ r ∉ l.map (·.1) := by
  unfold lookD
  rw [Option.map_eq_none_iff, List.find?_eq_none]
  constructor
  · intro h hr
    obtain ⟨p, hp, rfl⟩ := List.mem_map.1 hr
    exact h p hp (by simp)
  · intro h p hp he
    exact h (List.mem_map.2 ⟨p, hp, by simpa using he⟩)
theorem pointOf_char {w : Bytes} {n : Int} (h : pointOf w = .ok n) : isChar n = true := by
  unfold pointOf at h
  split at h
  · cases h
  · split at h
    · injection h with h; subst h; assumption
    · cases h
theorem pointsOf_chars : ∀ {w : List Bytes} {l : List Int}, pointsOf w = .ok l → l.length = w.length ∧ ∀ x ∈ l, isChar x = true
  | [], l, h => by
    simp only [pointsOf, Except.ok.injEq] at h
    subst h
    simp
  | x :: w, l, h => by
    simp only [pointsOf] at h
    cases hp : pointOf x with
    | error e => rw [hp] at h; cases h
    | ok n =>
      rw [hp] at h
      simp only at h
      cases hq : pointsOf w with
      | error e => rw [hq] at h; cases h
      | ok ns =>
        rw [hq] at h
        simp only [Except.ok.injEq] at h
        subst h
        obtain ⟨h1, h2⟩ := pointsOf_chars hq
        refine ⟨by simp [h1], fun y hy => ?_⟩
        rcases List.mem_cons.1 hy with rfl | hy
        · exact pointOf_char hp
        · exact h2 y hy
theorem someOf_chars {w : List Bytes} {l : List Int} (h : someOf w = .ok l) : ∃ r ps, l = r :: ps ∧ ps ≠ [] ∧ ps.length ≤ 8 ∧ isChar r = true ∧ ∀ x ∈ ps, isChar x = true := by
  unfold someOf at h
  split at h
  · cases h
  · split at h
    · cases h
    · obtain ⟨h1, h2⟩ := pointsOf_chars h
      rw [List.length_tail] at h1
      match l, h1, h2 with
      | [], h1, _ => simp at h1; omega
      | [r], h1, _ => simp at h1; omega
      | r :: a :: ps, h1, h2 => exact ⟨r, a :: ps, rfl, by simp, by simp at h1 ⊢; omega, h2 r (by simp), fun x hx => h2 x (by simp at hx ⊢; exact .inr hx)⟩
theorem doFold_ok {st st' : St} {w : List Bytes} (h : StOk st) (hd : doFold st w = .ok st') : StOk st' := by
  unfold doFold at hd
  cases hs : someOf w with
  | error e => rw [hs] at hd; cases hd
  | ok l =>
    obtain ⟨r, ps, rfl, hne, h8, hc, hcs⟩ := someOf_chars hs
    rw [hs] at hd
    simp only at hd
    split at hd
    · cases hd
    · injection hd with hd
      subst hd
      exact { h with
        f8 := fun q hq => by
          rcases List.mem_append.1 hq with hq | hq
          · exact h.f8 q hq
          · simp only [List.mem_singleton] at hq; subst hq; exact h8
        fchars := fun q hq => by
          rcases List.mem_append.1 hq with hq | hq
          · exact h.fchars q hq
          · simp only [List.mem_singleton] at hq; subst hq; exact ⟨hc, hcs⟩ }
theorem doDecomp_ok {st st' : St} {w : List Bytes} {k : Int} (h : StOk st) (hd : doDecomp st w k = .ok st') : StOk st' := by
  unfold doDecomp at hd
  cases hs : someOf w with
  | error e => rw [hs] at hd; cases hd
  | ok l =>
    obtain ⟨r, ps, rfl, hne, h8, hc, hcs⟩ := someOf_chars hs
    rw [hs] at hd
    simp only at hd
    split at hd
    · cases hd
    · rename_i hl
      split at hd
      · cases hd
      · rename_i hj
        injection hd with hd
        subst hd
        have hl' : r ∉ st.d.decomps.map (·.1) := lookD_none.1 (by simpa using hl)
        simp only [Bool.or_eq_true, not_or, Bool.not_eq_true] at hj
        exact { h with
          d8 := fun q hq => by
            rcases List.mem_append.1 hq with hq | hq
            · exact h.d8 q hq
            · simp only [List.mem_singleton] at hq; subst hq; exact ⟨h8, hne⟩
          keys := by simp [h.keys]
          nodup := by
            simp only [List.map_append, List.map_cons, List.map_nil]
            rw [List.nodup_append]
            refine ⟨h.nodup, by simp, fun a ha b hb => ?_⟩
            simp only [List.mem_singleton] at hb
            subst hb
            rintro rfl
            exact hl' ha
          plain := fun q hq => by
            rcases List.mem_append.1 hq with hq | hq
            · exact h.plain q hq
            · simp only [List.mem_singleton] at hq; subst hq; exact hj
          chars := fun q hq => by
            rcases List.mem_append.1 hq with hq | hq
            · exact h.chars q hq
            · simp only [List.mem_singleton] at hq; subst hq; exact ⟨hc, hcs⟩ }
theorem doClass_ok {st st' : St} {w : List Bytes} (h : StOk st) (hd : doClass st w = .ok st') : StOk st' := by
  unfold doClass at hd
  split at hd
  · cases hd
  · split at hd
    · cases hd
    · injection hd with hd
      subst hd
      exact ⟨h.f8, h.d8, h.keys, h.nodup, h.plain, h.chars, h.fchars⟩
theorem doKind_ok {st st' : St} {w : List Bytes} (h : StOk st) (hd : doKind st w = .ok st') : StOk st' := by
  unfold doKind at hd
  split at hd
  · cases hd
  · split at hd
    · cases hd
    · injection hd with hd
      subst hd
      exact ⟨h.f8, h.d8, h.keys, h.nodup, h.plain, h.chars, h.fchars⟩
theorem doLine_ok {st st' : St} {w : List Bytes} {k : Int} (h : StOk st) (hd : doLine st w k = .ok st') : StOk st' := by
  unfold doLine at hd
  split at hd
  · injection hd with hd
    subst hd
    exact h
  · split at hd
    · exact doClass_ok h hd
    · split at hd
      · exact doKind_ok h hd
      · split at hd
        · exact doFold_ok h hd
        · split at hd
          · exact doDecomp_ok h hd
          · cases hd
theorem doLines_ok : ∀ {ls : List Bytes} {st st' : St} {k : Int}, StOk st → doLines st ls k = .ok st' → StOk st'
  | [], st, st', k, h, hd => by
    simp only [doLines, Except.ok.injEq] at hd
    subst hd
    exact h
  | l :: ls, st, st', k, h, hd => by
    simp only [doLines] at hd
    cases hl : doLine st (wordsOf l) k with
    | error e => rw [hl] at hd; cases hd
    | ok s => rw [hl] at hd; exact doLines_ok (doLine_ok h hl) hd
end Go.Proofs.YtikpkjpnehkbfaaGreatDoor.Sp
namespace Go.Proofs.YtikpkjpnehkbfaaGreatDoor.Sp
def leastF (a b : Int) (m : Option Int) (p : Int × List Int) : Option Int := if p.2 = [a, b] then (match m with | none => some p.1 | some x => if p.1 < x then some p.1 else some x) else m
theorem least_fold (a b : Int) : ∀ (l : List (Int × List Int)) (m₀ : Option Int), (l.foldl (leastF a b) m₀ = none → m₀ = none ∧ ∀ p ∈ l, p.2 ≠ [a, b]) ∧
    ∀ x, l.foldl (leastF a b) m₀ = some x → (m₀ = some x ∨ ∃ p ∈ l, p.1 = x ∧ p.2 = [a, b]) ∧ (∀ y, m₀ = some y → x ≤ y) ∧ ∀ p ∈ l, p.2 = [a, b] → x ≤ p.1
  | [], m₀ => ⟨fun h => ⟨h, by simp⟩, fun x h => ⟨.inl h, fun y hy => by
      have h' : m₀ = some x := h
      rw [h'] at hy
      injection hy with hy
      omega, by simp⟩⟩
  | p :: l, m₀ => by
    obtain ⟨h1, h2⟩ := least_fold a b l (leastF a b m₀ p)
    rw [List.foldl_cons]
    by_cases hp : p.2 = [a, b]
    · have hf : ∃ z, leastF a b m₀ p = some z ∧ z ≤ p.1 ∧ (m₀ = some z ∨ p.1 = z) ∧ ∀ y, m₀ = some y → z ≤ y := by
        unfold leastF
        rw [if_pos hp]
        cases m₀ with
        | none => exact ⟨p.1, rfl, Int.le_refl _, .inr rfl, fun y h => by cases h⟩
        | some y =>
          by_cases hlt : p.1 < y
          · simp only [if_pos hlt]
            exact ⟨p.1, rfl, Int.le_refl _, .inr rfl, fun z h => by injection h with h; omega⟩
          · simp only [if_neg hlt]
            exact ⟨y, rfl, by omega, .inl rfl, fun z h => by injection h with h; omega⟩
      obtain ⟨z, hz, z1, z2, z3⟩ := hf
      rw [hz] at h1 h2 ⊢
      refine ⟨fun h => absurd (h1 h).1 (by simp), fun x h => ?_⟩
      obtain ⟨k1, k2, k3⟩ := h2 x h
      have k4 := k2 z rfl
      refine ⟨?_, fun y hy => by have := z3 y hy; omega, fun q hq hq2 => ?_⟩
      · rcases k1 with e | ⟨q, hq, e⟩
        · injection e with e
          subst e
          rcases z2 with e | e
          · exact .inl e
          · exact .inr ⟨p, by simp, e, hp⟩
        · exact .inr ⟨q, by simp [hq], e⟩
      · rcases List.mem_cons.1 hq with rfl | hq
        · omega
        · exact k3 q hq hq2
    · have hf : leastF a b m₀ p = m₀ := by unfold leastF; rw [if_neg hp]
      rw [hf] at h1 h2 ⊢
      refine ⟨fun h => ⟨(h1 h).1, fun q hq => ?_⟩, fun x h => ?_⟩
      · rcases List.mem_cons.1 hq with rfl | hq
        · exact hp
        · exact (h1 h).2 q hq
      · obtain ⟨k1, k2, k3⟩ := h2 x h
        refine ⟨?_, k2, fun q hq hq2 => ?_⟩
        · rcases k1 with e | ⟨q, hq, e⟩
          · exact .inl e
          · exact .inr ⟨q, by simp [hq], e⟩
        · rcases List.mem_cons.1 hq with rfl | hq
          · exact absurd hq2 hp
          · exact k3 q hq hq2
theorem least_some {l : List (Int × List Int)} {a b m : Int} (h : least l a b = some m) : (m, [a, b]) ∈ l ∧ ∀ p ∈ l, p.2 = [a, b] → m ≤ p.1 := by
  obtain ⟨k1, _, k3⟩ := (least_fold a b l none).2 m h
  refine ⟨?_, k3⟩
  rcases k1 with e | ⟨p, hp, e1, e2⟩
  · cases e
  · have : p = (m, [a, b]) := by cases p; simp only at e1 e2; rw [e1, e2]
    exact this ▸ hp
theorem lookD_mem' {l : List (Int × List Int)} (hnd : (l.map (·.1)).Nodup) {r : Int} {ps : List Int} (h : (r, ps) ∈ l) : lookD l r = some ps := by
  induction l with
  | nil => cases h
  | cons p l ih =>
    simp only [List.map_cons, List.nodup_cons] at hnd
    unfold lookD
    rw [List.find?_cons]
    rcases List.mem_cons.1 h with e | h
    · rw [← e]; simp
    · have hne : p.1 ≠ r := fun e => hnd.1 (List.mem_map.2 ⟨_, h, e.symm⟩)
      have hb : (p.1 == r) = false := beq_eq_false_iff_ne.2 hne
      rw [hb]
      exact ih hnd.2 h
theorem lookD_in {l : List (Int × List Int)} {r : Int} {ps : List Int} (h : lookD l r = some ps) : (r, ps) ∈ l := by
  unfold lookD at h
  obtain ⟨p, hp, rfl⟩ := Option.map_eq_some_iff.1 h
  have h1 := List.mem_of_find?_eq_some hp
  have h2 := List.find?_some hp
  have : p = (r, p.2) := by cases p; simp at h2; simp [h2]
  exact this ▸ h1
theorem class_syl {D : PD} {r : Int} (h : isSyl r = true) : classOf D r = 0 := by unfold classOf; rw [h]; simp
theorem class_jamo {D : PD} {r : Int} (h : isJamo r = true) : classOf D r = 0 := by unfold classOf; rw [h]; simp
theorem compose_back {st : St} (hok : StOk st) {a b r : Int} (h : composeOf st.d a b = some r) : classOf st.d a = 0 ∧ decompOf st.d r = (if isSyl r && isSyl a then decompOf st.d a else [a]) ++ [b] := by
  unfold composeOf at h
  split at h
  · rename_i hc
    injection h with h
    have hr : isSyl r = true := by simp [isSyl]; omega
    have ha : isSyl a = false := by simp [isSyl]; omega
    refine ⟨class_jamo (by simp [isJamo]; omega), ?_⟩
    rw [hr, ha]
    unfold decompOf
    rw [if_pos hr]
    unfold sylOf
    have e1 : (r - 44032) % 28 = 0 := by omega
    have e2 : 4352 + (r - 44032) / 588 = a := by omega
    have e3 : 4449 + (r - 44032) / 28 % 21 = b := by omega
    simp only [e1, e2, e3, if_true]
    rfl
  · split at h
    · rename_i _ hc
      injection h with h
      have hr : isSyl r = true := by
        have := hc.1
        simp [isSyl] at this ⊢
        omega
      refine ⟨class_syl hc.1, ?_⟩
      rw [hr, hc.1]
      unfold decompOf
      rw [if_pos hr, if_pos hc.1]
      unfold sylOf
      have h0 : 44032 ≤ a := by have := hc.1; simp [isSyl] at this; exact this.1
      have e1 : ¬ (r - 44032) % 28 = 0 := by omega
      have e2 : (r - 44032) / 588 = (a - 44032) / 588 := by omega
      have e3 : (r - 44032) / 28 % 21 = (a - 44032) / 28 % 21 := by omega
      have e4 : 4519 + (r - 44032) % 28 = b := by omega
      simp only [e1, e2, e3, e4, hc.2.1, if_true, if_false]
      rfl
    · split at h
      · cases h
      · rename_i hcl
        have hcl : classOf st.d a = 0 := Decidable.not_not.1 hcl
        obtain ⟨hm, _⟩ := least_some h
        have hr : isSyl r = false := (hok.plain _ hm).1
        refine ⟨hcl, ?_⟩
        unfold decompOf
        rw [hr, lookD_mem' hok.nodup hm]
        rfl
end Go.Proofs.YtikpkjpnehkbfaaGreatDoor.Sp
namespace Go.Proofs.YtikpkjpnehkbfaaGreatDoor.Sp
noncomputable def badF (D : PD) (m : Option (Int × Int × Int)) (p : Int × Int) : Option (Int × Int × Int) := match badOf D p.1 with | none => m | some e => (match m with | none => some (p.1, e, p.2) | some x => if p.1 < x.1 then some (p.1, e, p.2) else m)
theorem bad_fold (D : PD) : ∀ (l : List (Int × Int)) (m₀ : Option (Int × Int × Int)), (l.foldl (badF D) m₀ = none → m₀ = none ∧ ∀ p ∈ l, badOf D p.1 = none) ∧
    ∀ x, l.foldl (badF D) m₀ = some x → (m₀ = some x ∨ ((x.1, x.2.2) ∈ l ∧ badOf D x.1 = some x.2.1)) ∧ (∀ y, m₀ = some y → x.1 ≤ y.1) ∧ ∀ p ∈ l, badOf D p.1 ≠ none → x.1 ≤ p.1
  | [], m₀ => ⟨fun h => ⟨h, by simp⟩, fun x h => ⟨.inl h, fun y hy => by
      have h' : m₀ = some x := h
      rw [h'] at hy
      injection hy with hy
      subst hy
      omega, by simp⟩⟩
  | p :: l, m₀ => by
    obtain ⟨h1, h2⟩ := bad_fold D l (badF D m₀ p)
    rw [List.foldl_cons]
    cases hp : badOf D p.1 with
    | none =>
      have hf : badF D m₀ p = m₀ := by unfold badF; rw [hp]
      rw [hf] at h1 h2 ⊢
      refine ⟨fun h => ⟨(h1 h).1, fun q hq => ?_⟩, fun x h => ?_⟩
      · rcases List.mem_cons.1 hq with rfl | hq
        · exact hp
        · exact (h1 h).2 q hq
      · obtain ⟨k1, k2, k3⟩ := h2 x h
        refine ⟨?_, k2, fun q hq hq2 => ?_⟩
        · rcases k1 with e | ⟨q, e⟩
          · exact .inl e
          · exact .inr ⟨by simp [q], e⟩
        · rcases List.mem_cons.1 hq with rfl | hq
          · exact absurd hp hq2
          · exact k3 q hq hq2
    | some e =>
      have hf : ∃ z, badF D m₀ p = some z ∧ z.1 ≤ p.1 ∧ (m₀ = some z ∨ z = (p.1, e, p.2)) ∧ ∀ y, m₀ = some y → z.1 ≤ y.1 := by
        unfold badF
        rw [hp]
        cases m₀ with
        | none => exact ⟨_, rfl, Int.le_refl _, .inr rfl, fun y h => by cases h⟩
        | some y =>
          by_cases hlt : p.1 < y.1
          · simp only [if_pos hlt]
            exact ⟨_, rfl, Int.le_refl _, .inr rfl, fun z h => by injection h with h; subst h; simp only; omega⟩
          · simp only [if_neg hlt]
            exact ⟨y, rfl, by omega, .inl rfl, fun z h => by injection h with h; subst h; omega⟩
      obtain ⟨z, hz, z1, z2, z3⟩ := hf
      rw [hz] at h1 h2 ⊢
      refine ⟨fun h => absurd (h1 h).1 (by simp), fun x h => ?_⟩
      obtain ⟨k1, k2, k3⟩ := h2 x h
      have k4 := k2 z rfl
      refine ⟨?_, fun y hy => by have := z3 y hy; omega, fun q hq hq2 => ?_⟩
      · rcases k1 with e' | ⟨q, e'⟩
        · injection e' with e'
          subst e'
          rcases z2 with e' | e'
          · exact .inl e'
          · rw [e']
            exact .inr ⟨by simp, hp⟩
        · exact .inr ⟨by simp [q], e'⟩
      · rcases List.mem_cons.1 hq with rfl | hq
        · omega
        · exact k3 q hq hq2
theorem badLeast_none {st : St} (h : ∀ p ∈ st.lines, badOf st.d p.1 = none) : badLeast st = none := by
  cases hb : badLeast st with
  | none => rfl
  | some x =>
    rcases ((bad_fold st.d st.lines none).2 x hb).1 with e | ⟨h1, h2⟩
    · cases e
    · rw [h _ h1] at h2
      cases h2
theorem nodup_val {l : List (Int × Int)} (h : (l.map (·.1)).Nodup) {x a b : Int} (h1 : (x, a) ∈ l) (h2 : (x, b) ∈ l) : a = b := by
  induction l with
  | nil => cases h1
  | cons p l ih =>
    simp only [List.map_cons, List.nodup_cons] at h
    rcases List.mem_cons.1 h1 with e1 | h1
    · rcases List.mem_cons.1 h2 with e2 | h2
      · rw [← e1] at e2
        injection e2 with _ e2
        exact e2.symm
      · exact absurd (List.mem_map.2 ⟨_, h2, by rw [← e1]⟩) h.1
    · rcases List.mem_cons.1 h2 with e2 | h2
      · exact absurd (List.mem_map.2 ⟨_, h1, by rw [← e2]⟩) h.1
      · exact ih h.2 h1 h2
theorem badLeast_one {st : St} (hnd : (st.lines.map (·.1)).Nodup) {p : Int × Int} {no : Int} (hp : p ∈ st.lines) (hb : badOf st.d p.1 = some no) (hl : ∀ q ∈ st.lines, badOf st.d q.1 ≠ none → p.1 ≤ q.1) : badLeast st = some (p.1, no, p.2) := by
  cases hx : badLeast st with
  | none =>
    have := ((bad_fold st.d st.lines none).1 hx).2 p hp
    rw [this] at hb
    cases hb
  | some x =>
    obtain ⟨k1, _, k3⟩ := (bad_fold st.d st.lines none).2 x hx
    have k4 := k3 p hp (by rw [hb]; simp)
    rcases k1 with e | ⟨h1, h2⟩
    · cases e
    · have k5 := hl _ h1 (by rw [h2]; simp)
      obtain ⟨x1, x2, x3⟩ := x
      simp only at h1 h2 k4 k5
      have e : x1 = p.1 := by omega
      subst e
      rw [hb] at h2
      injection h2 with h2
      rw [nodup_val hnd h1 (show (p.1, p.2) ∈ st.lines from hp), h2]
end Go.Proofs.YtikpkjpnehkbfaaGreatDoor.Sp
namespace Go.Proofs.YtikpkjpnehkbfaaGreatDoor.Sp
end Go.Proofs.YtikpkjpnehkbfaaGreatDoor.Sp
namespace Go.Proofs.YtikpkjpnehkbfaaGreatDoor.Sp
def turn : Bool → Bytes → Bytes
  | _, [] => []
  | r, c :: l =>
    if c = 13 ∧ (l = [] ∨ l.head? = some 10) then turn r l
    else if c = 32 ∧ r = false then 9 :: 32 :: 32 :: turn r l
    else if c = 10 then [32, 35, 32, 120, 13, 10, 32, 10] ++ turn false l
    else c :: turn (r || c == 35) l
def wide : Bytes → Bytes
  | [] => []
  | c :: l => if c = 32 then 9 :: 32 :: 32 :: wide l else c :: wide l
theorem turn_length : ∀ (l : Bytes) (r : Bool), (turn r l).length ≤ 8 * l.length
  | [], _ => by simp [turn]
  | c :: l, r => by
    rw [turn]
    have h1 := turn_length l r
    have h2 := turn_length l false
    have h3 := turn_length l (r || c == 35)
    split
    · simp; omega
    · split
      · simp; omega
      · split
        · simp; omega
        · simp; omega
end Go.Proofs.YtikpkjpnehkbfaaGreatDoor.Sp
namespace Go.Proofs.YtikpkjpnehkbfaaGreatDoor.Mapl
open Go Go.RowKit
def found (f : Value → Bool) : List MapEntry → Nat → Option (Nat × Value)
  | [], _ => none
  | e :: es, i => if f e.key then some (i, e.val) else found f es (i + 1)
theorem found_none {f : Value → Bool} {es : List MapEntry} {i : Nat} (h : ∀ e ∈ es, f e.key = false) : found f es i = none := by
  induction es generalizing i with
  | nil => rfl
  | cons e es ih =>
    unfold found
    rw [h e (by simp), if_neg (by decide)]
    exact ih fun e' he => h e' (by simp [he])
theorem found_at {f : Value → Bool} {es : List MapEntry} {i j : Nat} {e : MapEntry} (hj : es[j]? = some e) (he : f e.key = true) (hb : ∀ k e', k < j → es[k]? = some e' → f e'.key = false) : found f es i = some (i + j, e.val) := by
  induction es generalizing i j with
  | nil => simp at hj
  | cons x es ih =>
    unfold found
    cases j with
    | zero =>
      simp only [List.getElem?_cons_zero, Option.some.injEq] at hj
      subst hj
      rw [he, if_pos rfl]
      rfl
    | succ j =>
      rw [hb 0 x (by omega) (by simp), if_neg (by decide), ih (by simpa using hj) (fun k e' hk hke => hb (k + 1) e' (by omega) (by simpa using hke))]
      simp only [Option.some.injEq, Prod.mk.injEq, and_true]
      omega
def keyI (q : IntKind) (x : Int) : Value → Bool
  | .int q' y => q == q' && x == y
  | _ => false
def keyS (s : ByteArray) : Value → Bool
  | .string t => s == t
  | _ => false
theorem findNow_int (q : IntKind) (x : Int) : ∀ (es : List MapEntry) (i : Nat), (∀ e ∈ es, ∃ y, e.key = .int q y) → Instr.findNow (.int q) (.int q x) es i = some (found (keyI q x) es i)
  | [], _, _ => rfl
  | e :: es, i, h => by
    obtain ⟨y, hy⟩ := h e (by simp)
    unfold Instr.findNow found
    rw [hy]
    simp only [Instr.sameNow, if_pos, keyI, beq_self_eq_true, Bool.true_and]
    cases hxy : x == y with
    | true => simp
    | false => simpa using findNow_int q x es (i + 1) (fun e' he => h e' (by simp [he]))
theorem findNow_str (s : ByteArray) : ∀ (es : List MapEntry) (i : Nat), (∀ e ∈ es, ∃ t, e.key = .string t) → Instr.findNow .string (.string s) es i = some (found (keyS s) es i)
  | [], _, _ => rfl
  | e :: es, i, h => by
    obtain ⟨y, hy⟩ := h e (by simp)
    unfold Instr.findNow found
    rw [hy]
    have ih := findNow_str s es (i + 1) (fun e' he => h e' (by simp [he]))
    have e1 : Instr.sameNow .string (.string s) (.string y) = some (keyS s (.string y)) := rfl
    rw [e1]
    cases hk : keyS s (.string y) with
    | true => simp
    | false => simpa using ih
def setB (w : World) (b : Nat) (o : Obj) : World := { w with heap := w.heap.setIfInBounds b o }
theorem setB_size (w : World) (b : Nat) (o : Obj) : (setB w b o).heap.size = w.heap.size := by simp [setB]
theorem setB_same {w : World} {b : Nat} {o o' : Obj} (h : w.heap[b]? = some o) : (setB w b o').heap[b]? = some o' := (MapKept.heap_set h).1
theorem setB_other {w : World} {b k : Nat} (o' : Obj) (h : k ≠ b) : (setB w b o').heap[k]? = w.heap[k]? := by
  unfold setB
  simp only [Array.getElem?_setIfInBounds]
  rw [if_neg (fun e => h e.symm)]
theorem setB_grown (w : World) (b : Nat) (o : Obj) : w.grownBy (setB w b o) (some b) := ⟨rfl, rfl, rfl, by rw [setB_size]; exact Nat.le_refl _, fun k _ hk => setB_other o (fun e => hk (by rw [e]))⟩
section
variable {P : Program} (w : World) {t k e : TypeId} {b : Nat} {es : Array MapEntry} {clock : Nat}
theorem run_lookup (f : Value → Bool) (key : Value) (ht : P.underlying t = some (.map k e)) (hb : w.heap[b]? = some (.map es clock))
    (hc : ∀ emp, (Instr.checkKey emp 10000 k key).run P w = .ok () w) (hf : (Instr.findKey k key es.toList).run P w = .ok (found f es.toList 0) w) (z : Value) (hz : (zeroValue e).run P w = .ok z w) (ok : Bool) :
    (Instr.lookup t (.map (some b)) key ok).run P w = .ok (match found f es.toList 0 with | some (_, v) => if ok then .tuple #[v, .bool true] else v | none => if ok then .tuple #[z, .bool false] else z) w := by
  cases hr : found f es.toList 0 with
  | none =>
    rw [hr] at hf
    cases ok <;> simp [Instr.lookup, run_underlying ht, MapKept.run_getObj_map hb, hc, hf, hz, Result.andThen]
  | some r =>
    obtain ⟨i, v⟩ := r
    rw [hr] at hf
    cases ok <;> simp [Instr.lookup, run_underlying ht, MapKept.run_getObj_map hb, hc, hf, Result.andThen]
theorem run_update_new (f : Value → Bool) (key val : Value) (ht : P.underlying t = some (.map k e)) (hb : w.heap[b]? = some (.map es clock))
    (hc : (Instr.checkKey false 10000 k key).run P w = .ok () w) (hf : (Instr.findKey k key es.toList).run P w = .ok (found f es.toList 0) w) (hn : found f es.toList 0 = none) :
    (Instr.mapUpdate t (.map (some b)) key val).run P w = .ok () (setB w b (.map (es.push { key, val, born := clock }) (clock + 1))) := by
  rw [hn] at hf
  simp [Instr.mapUpdate, run_underlying ht, MapKept.run_getObj_map hb, hc, hf, MapKept.run_setObj_map _ hb, Result.andThen, setB]
theorem run_update_old (f : Value → Bool) (key val : Value) (ht : P.underlying t = some (.map k e)) (hb : w.heap[b]? = some (.map es clock))
    (hc : (Instr.checkKey false 10000 k key).run P w = .ok () w) (hf : (Instr.findKey k key es.toList).run P w = .ok (found f es.toList 0) w) (i : Nat) (old : Value) (ent : MapEntry) (hn : found f es.toList 0 = some (i, old)) (hi : es[i]? = some ent) (hk : Instr.sameBits 10000 ent.key key = true) :
    (Instr.mapUpdate t (.map (some b)) key val).run P w = .ok () (setB w b (.map (es.modify i fun e => { e with key, val }) clock)) := by
  rw [hn] at hf
  simp [Instr.mapUpdate, run_underlying ht, MapKept.run_getObj_map hb, hc, hf, hi, Instr.keyThatStays, hk, MapKept.run_setObj_map _ hb, Result.andThen, setB]
theorem check_int {q : IntKind} {x : Int} (hk : P.underlying k = some (.int q)) (emp : Bool) : (Instr.checkKey emp 10000 k (.int q x)).run P w = .ok () w := MapKept.run_checkKey (k := .int q x) hk (by simp [MapKept.IsKey]) emp 9999
theorem check_str {s : ByteArray} (hk : P.underlying k = some .string) (emp : Bool) : (Instr.checkKey emp 10000 k (.string s)).run P w = .ok () w := MapKept.run_checkKey (k := .string s) hk (by simp [MapKept.IsKey]) emp 9999
theorem find_int {q : IntKind} {x : Int} (hk : P.underlying k = some (.int q)) (l : List MapEntry) (h : ∀ e ∈ l, ∃ y, e.key = .int q y) : (Instr.findKey k (.int q x) l).run P w = .ok (found (keyI q x) l 0) w := MapKept.run_findKey hk (findNow_int q x l 0 h)
theorem find_str {s : ByteArray} (hk : P.underlying k = some .string) (l : List MapEntry) (h : ∀ e ∈ l, ∃ t, e.key = .string t) : (Instr.findKey k (.string s) l).run P w = .ok (found (keyS s) l 0) w := MapKept.run_findKey hk (findNow_str s l 0 h)
end
end Go.Proofs.YtikpkjpnehkbfaaGreatDoor.Mapl
