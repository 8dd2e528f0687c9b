/- Maps as the model has them, entry by entry: a look-up and a store at a key that is a whole number, a text, or two whole numbers. Plain laws of memory, over any program. -/
import Derived.WalkKit
import Derived.OwnWalk
import Derived.Below
import Derived.MapKept
namespace Go.Proofs.YtikpkjpnehkbfaaGreatDoor.Mapl
open Go Go.RowKit

/-- What a look-up finds: by a test of keys. -/
def found (f : Value → Bool) : List MapEntry → Nat → Option (Nat × Value)
  | [], _ => none
  | e :: es, i => if f e.key then some (i, e.val) else found f es (i + 1)
theorem found_none {f : Value → Bool} {es : List MapEntry} {i : Nat} (h : ∀ e ∈ es, f e.key = false) : found f es i = none := by
  induction es generalizing i with
  | nil => rfl
  | cons e es ih =>
    unfold found
    rw [h e (by simp), if_neg (by decide)]
    exact ih fun e' he => h e' (by simp [he])
theorem found_at {f : Value → Bool} {es : List MapEntry} {i j : Nat} {e : MapEntry} (hj : es[j]? = some e) (he : f e.key = true) (hb : ∀ k e', k < j → es[k]? = some e' → f e'.key = false) : found f es i = some (i + j, e.val) := by
  induction es generalizing i j with
  | nil => simp at hj
  | cons x es ih =>
    unfold found
    cases j with
    | zero =>
      simp only [List.getElem?_cons_zero, Option.some.injEq] at hj
      subst hj
      rw [he, if_pos rfl]
      rfl
    | succ j =>
      rw [hb 0 x (by omega) (by simp), if_neg (by decide), ih (by simpa using hj) (fun k e' hk hke => hb (k + 1) e' (by omega) (by simpa using hke))]
      simp only [Option.some.injEq, Prod.mk.injEq, and_true]
      omega

def keyI (q : IntKind) (x : Int) : Value → Bool
  | .int q' y => q == q' && x == y
  | _ => false
def keyS (s : ByteArray) : Value → Bool
  | .string t => s == t
  | _ => false
theorem findNow_int (q : IntKind) (x : Int) : ∀ (es : List MapEntry) (i : Nat), (∀ e ∈ es, ∃ y, e.key = .int q y) → Instr.findNow (.int q) (.int q x) es i = some (found (keyI q x) es i)
  | [], _, _ => rfl
  | e :: es, i, h => by
    obtain ⟨y, hy⟩ := h e (by simp)
    unfold Instr.findNow found
    rw [hy]
    simp only [Instr.sameNow, if_pos, keyI, beq_self_eq_true, Bool.true_and]
    cases hxy : x == y with
    | true => simp
    | false => simpa using findNow_int q x es (i + 1) (fun e' he => h e' (by simp [he]))
theorem findNow_str (s : ByteArray) : ∀ (es : List MapEntry) (i : Nat), (∀ e ∈ es, ∃ t, e.key = .string t) → Instr.findNow .string (.string s) es i = some (found (keyS s) es i)
  | [], _, _ => rfl
  | e :: es, i, h => by
    obtain ⟨y, hy⟩ := h e (by simp)
    unfold Instr.findNow found
    rw [hy]
    have ih := findNow_str s es (i + 1) (fun e' he => h e' (by simp [he]))
    have e1 : Instr.sameNow .string (.string s) (.string y) = some (keyS s (.string y)) := rfl
    rw [e1]
    cases hk : keyS s (.string y) with
    | true => simp
    | false => simpa using ih

def setB (w : World) (b : Nat) (o : Obj) : World := { w with heap := w.heap.setIfInBounds b o }
theorem setB_size (w : World) (b : Nat) (o : Obj) : (setB w b o).heap.size = w.heap.size := by simp [setB]
theorem setB_same {w : World} {b : Nat} {o o' : Obj} (h : w.heap[b]? = some o) : (setB w b o').heap[b]? = some o' := (MapKept.heap_set h).1
theorem setB_other {w : World} {b k : Nat} (o' : Obj) (h : k ≠ b) : (setB w b o').heap[k]? = w.heap[k]? := by
  unfold setB
  simp only [Array.getElem?_setIfInBounds]
  rw [if_neg (fun e => h e.symm)]
theorem setB_grown (w : World) (b : Nat) (o : Obj) : w.grownBy (setB w b o) (some b) := ⟨rfl, rfl, rfl, by rw [setB_size]; exact Nat.le_refl _, fun k _ hk => setB_other o (fun e => hk (by rw [e]))⟩
theorem setB_below {B : Nat} {a w : World} (h : Below B a w) {b : Nat} (hb : B ≤ b) (o : Obj) : Below B a (setB w b o) :=
  ⟨h.os, h.tape, h.output, by rw [setB_size]; exact h.size, fun k hk => (setB_other o (by omega)).trans (h.block k hk)⟩
theorem setB_cell {w : World} {b : Nat} (o : Obj) {a : Addr} (h : a.block ≠ b) : (setB w b o).cell? a = w.cell? a := World.cell?_of_block (setB_other o h)
theorem setB_frozen {w : World} {b : Nat} (o : Obj) {a : Addr} (h : a.block ≠ b) : (setB w b o).frozen? a = w.frozen? a := World.frozen?_of_block (setB_other o h)

section
variable {P : Program} (w : World) {t k e : TypeId} {b : Nat} {es : Array MapEntry} {clock : Nat}
/-- A look-up, the keys found by f. -/
theorem run_lookup (f : Value → Bool) (key : Value) (ht : P.underlying t = some (.map k e)) (hb : w.heap[b]? = some (.map es clock))
    (hc : ∀ emp, (Instr.checkKey emp 10000 k key).run P w = .ok () w) (hf : (Instr.findKey k key es.toList).run P w = .ok (found f es.toList 0) w) (z : Value) (hz : (zeroValue e).run P w = .ok z w) (ok : Bool) :
    (Instr.lookup t (.map (some b)) key ok).run P w = .ok (match found f es.toList 0 with | some (_, v) => if ok then .tuple #[v, .bool true] else v | none => if ok then .tuple #[z, .bool false] else z) w := by
  cases hr : found f es.toList 0 with
  | none =>
    rw [hr] at hf
    cases ok <;> simp [Instr.lookup, run_underlying ht, MapKept.run_getObj_map hb, hc, hf, hz, Result.andThen]
  | some r =>
    obtain ⟨i, v⟩ := r
    rw [hr] at hf
    cases ok <;> simp [Instr.lookup, run_underlying ht, MapKept.run_getObj_map hb, hc, hf, Result.andThen]
/-- A store at a new key. -/
theorem run_update_new (f : Value → Bool) (key val : Value) (ht : P.underlying t = some (.map k e)) (hb : w.heap[b]? = some (.map es clock))
    (hc : (Instr.checkKey false 10000 k key).run P w = .ok () w) (hf : (Instr.findKey k key es.toList).run P w = .ok (found f es.toList 0) w) (hn : found f es.toList 0 = none) :
    (Instr.mapUpdate t (.map (some b)) key val).run P w = .ok () (setB w b (.map (es.push { key, val, born := clock }) (clock + 1))) := by
  rw [hn] at hf
  simp [Instr.mapUpdate, run_underlying ht, MapKept.run_getObj_map hb, hc, hf, MapKept.run_setObj_map _ hb, Result.andThen, setB]
/-- A store at a key that is there. -/
theorem run_update_old (f : Value → Bool) (key val : Value) (ht : P.underlying t = some (.map k e)) (hb : w.heap[b]? = some (.map es clock))
    (hc : (Instr.checkKey false 10000 k key).run P w = .ok () w) (hf : (Instr.findKey k key es.toList).run P w = .ok (found f es.toList 0) w) (i : Nat) (old : Value) (ent : MapEntry) (hn : found f es.toList 0 = some (i, old)) (hi : es[i]? = some ent) (hk : Instr.sameBits 10000 ent.key key = true) :
    (Instr.mapUpdate t (.map (some b)) key val).run P w = .ok () (setB w b (.map (es.modify i fun e => { e with key, val }) clock)) := by
  rw [hn] at hf
  simp [Instr.mapUpdate, run_underlying ht, MapKept.run_getObj_map hb, hc, hf, hi, Instr.keyThatStays, hk, MapKept.run_setObj_map _ hb, Result.andThen, setB]
theorem check_int {q : IntKind} {x : Int} (hk : P.underlying k = some (.int q)) (emp : Bool) : (Instr.checkKey emp 10000 k (.int q x)).run P w = .ok () w := MapKept.run_checkKey (k := .int q x) hk (by simp [MapKept.IsKey]) emp 9999
theorem check_str {s : ByteArray} (hk : P.underlying k = some .string) (emp : Bool) : (Instr.checkKey emp 10000 k (.string s)).run P w = .ok () w := MapKept.run_checkKey (k := .string s) hk (by simp [MapKept.IsKey]) emp 9999
theorem find_int {q : IntKind} {x : Int} (hk : P.underlying k = some (.int q)) (l : List MapEntry) (h : ∀ e ∈ l, ∃ y, e.key = .int q y) : (Instr.findKey k (.int q x) l).run P w = .ok (found (keyI q x) l 0) w := MapKept.run_findKey hk (findNow_int q x l 0 h)
theorem find_str {s : ByteArray} (hk : P.underlying k = some .string) (l : List MapEntry) (h : ∀ e ∈ l, ∃ t, e.key = .string t) : (Instr.findKey k (.string s) l).run P w = .ok (found (keyS s) l 0) w := MapKept.run_findKey hk (findNow_str s l 0 h)
end
end Go.Proofs.YtikpkjpnehkbfaaGreatDoor.Mapl
