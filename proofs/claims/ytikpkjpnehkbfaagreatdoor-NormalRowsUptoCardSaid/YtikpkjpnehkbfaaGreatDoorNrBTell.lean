/- Which points are characters, syllables, parts of syllables: the program's three tests. -/
import Derived.Test.YtikpkjpnehkbfaaGreatDoorProg
import Derived.Test.YtikpkjpnehkbfaaGreatDoorNrA
import Derived.WalkKit
import Derived.OwnWalk
import Derived.Lib.Hide
import Derived.RangeFuncNested
import Derived.RangeFuncBound
import Derived.RangeFuncCalls
import Derived.RangeFuncBox
import Derived.RangeFuncLeaves
import Derived.Shelf.Abstract
import Derived.Shelf.RegionOpen
import Derived.OwnWalkIn
import Derived.TacticsInMore
import Derived.LoopNIn
import Derived.LoopIn
import Derived.Laws.OwnMore
import Derived.Test.YtikpkjpnehkbfaaGreatDoorNrRowLaws
import Derived.WalkSpells
import Derived.Maps.OwnOps
import Derived.BigRegion
set_option linter.unusedSimpArgs false
namespace Go.Proofs.YtikpkjpnehkbfaaGreatDoor.Pr
open Go Go.RowKit Go.Proofs.YtikpkjpnehkbfaaGreatDoor.Sp
theorem syllable_calls (r : Int) (w : World) : Calls Tryz.prog 96 #[.int .i32 r] w fun e w' => e = .returned (.bool (isSyl r)) ∧ w' = w := by
  by_cases h1 : 44032 ≤ r
  · by_cases h2 : r < 55204
    · have hr : isSyl r = true := by simp [isSyl, h1, h2]
      rw [hr]
      go_enter Tryz.func96, Tryz.ntmps96
      go_wp2
      go_ret
      exact ⟨rfl, rfl⟩
    · have hr : isSyl r = false := by simp [isSyl, h2]
      rw [hr]
      have h2' : 55204 ≤ r := by omega
      go_enter Tryz.func96, Tryz.ntmps96
      go_wp2
      go_ret
      exact ⟨rfl, rfl⟩
  · have hr : isSyl r = false := by simp [isSyl, h1]
    rw [hr]
    have h1' : r < 44032 := by omega
    go_enter Tryz.func96, Tryz.ntmps96
    go_wp2
    go_ret
    exact ⟨rfl, rfl⟩
theorem character_calls (r : Int) (w : World) : Calls Tryz.prog 95 #[.int .i32 r] w fun e w' => e = .returned (.bool (isChar r)) ∧ w' = w := by
  by_cases h1 : 0 ≤ r
  · by_cases h2 : r ≤ 1114111
    · by_cases h3 : r < 55296
      · have hr : isChar r = true := by simp [isChar, h1, h2, h3]
        rw [hr]
        go_enter Tryz.func95, Tryz.ntmps95
        go_wp2
        go_ret
        exact ⟨rfl, rfl⟩
      · by_cases h4 : 57343 < r
        · have hr : isChar r = true := by simp [isChar, h1, h2, h4]
          rw [hr]
          have h3' : 55296 ≤ r := by omega
          go_enter Tryz.func95, Tryz.ntmps95
          go_wp2
          go_ret
          exact ⟨rfl, rfl⟩
        · have hr : isChar r = false := by simp [isChar, h3, h4]
          rw [hr]
          have h3' : 55296 ≤ r := by omega
          have h4' : r ≤ 57343 := by omega
          go_enter Tryz.func95, Tryz.ntmps95
          go_wp2
          go_ret
          exact ⟨rfl, rfl⟩
    · have hr : isChar r = false := by simp [isChar, h2]
      rw [hr]
      have h2' : 1114111 < r := by omega
      go_enter Tryz.func95, Tryz.ntmps95
      go_wp2
      go_ret
      exact ⟨rfl, rfl⟩
  · have hr : isChar r = false := by simp [isChar, h1]
    rw [hr]
    have h1' : r < 0 := by omega
    go_enter Tryz.func95, Tryz.ntmps95
    go_wp2
    go_ret
    exact ⟨rfl, rfl⟩
theorem jamo_calls (r : Int) (w : World) : Calls Tryz.prog 97 #[.int .i32 r] w fun e w' => e = .returned (.bool (isJamo r)) ∧ w' = w := by
  rcases (by omega : r < 4352 ∨ (4352 ≤ r ∧ r < 4371) ∨ (4371 ≤ r ∧ r < 4449) ∨ (4449 ≤ r ∧ r < 4470) ∨ (4470 ≤ r ∧ r ≤ 4519) ∨ (4519 < r ∧ r < 4547) ∨ 4547 ≤ r) with h | h | h | h | h | h | h
  all_goals
    first
    | (have hr : isJamo r = true := by (simp [isJamo]; omega)
       rw [hr])
    | (have hr : isJamo r = false := by (simp [isJamo]; omega)
       rw [hr])
    have k1 : 4352 ≤ r ∨ r < 4352 := by omega
    rcases k1 with k1 | k1 <;> try omega
    all_goals rcases (by omega : r < 4371 ∨ 4371 ≤ r) with k2 | k2 <;> try omega
    all_goals rcases (by omega : r < 4449 ∨ 4449 ≤ r) with k3 | k3 <;> try omega
    all_goals rcases (by omega : r < 4470 ∨ 4470 ≤ r) with k4 | k4 <;> try omega
    all_goals rcases (by omega : r ≤ 4519 ∨ 4519 < r) with k5 | k5 <;> try omega
    all_goals rcases (by omega : r < 4547 ∨ 4547 ≤ r) with k6 | k6 <;> try omega
    all_goals
      clear h hr
      go_enter Tryz.func97, Tryz.ntmps97
      go_wp2
      go_ret
      first
        | exact ⟨rfl, rfl⟩
        | exact ⟨by simp; omega, rfl⟩
end Go.Proofs.YtikpkjpnehkbfaaGreatDoor.Pr
namespace Go.Proofs.YtikpkjpnehkbfaaGreatDoor.Pr
open Go Go.RowKit Go.Shelf Go.Proofs.YtikpkjpnehkbfaaGreatDoor.Sp
attribute [local go_sem] Oper.semAt_some
def rowCells (x : Row) : List Value := [.int .i32 x.lo, .int .i32 x.hi, .int .i64 x.n]
def flat (l : List Row) : List Value := l.flatMap rowCells
theorem flat_length (l : List Row) : (flat l).length = l.length * 3 := by
  induction l with
  | nil => rfl
  | cons x l ih =>
    simp only [flat, List.flatMap_cons, List.length_append, List.length_cons] at ih ⊢
    simp only [ih, rowCells, List.length_cons, List.length_nil]; omega
theorem flat_at (l : List Row) (k : Nat) (x : Row) (h : l[k]? = some x) : (flat l)[k * 3]? = some (.int .i32 x.lo) ∧ (flat l)[k * 3 + 1]? = some (.int .i32 x.hi) ∧ (flat l)[k * 3 + 2]? = some (.int .i64 x.n) := by
  induction l generalizing k with
  | nil => simp at h
  | cons y l ih =>
    cases k with
    | zero =>
      simp only [List.getElem?_cons_zero, Option.some.injEq] at h
      subst h
      exact ⟨rfl, rfl, rfl⟩
    | succ k =>
      have := ih k (by simpa using h)
      have e : flat (y :: l) = rowCells y ++ flat l := by simp [flat]
      rw [e]
      have hl : (rowCells y).length = 3 := rfl
      refine ⟨?_, ?_, ?_⟩
      · rw [List.getElem?_append_right (by rw [hl]; omega), hl, show (k + 1) * 3 - 3 = k * 3 by omega]; exact this.1
      · rw [List.getElem?_append_right (by rw [hl]; omega), hl, show (k + 1) * 3 + 1 - 3 = k * 3 + 1 by omega]; exact this.2.1
      · rw [List.getElem?_append_right (by rw [hl]; omega), hl, show (k + 1) * 3 + 2 - 3 = k * 3 + 2 by omega]; exact this.2.2
def RowsIn (n₀ : Nat) (W : World) (sv : Value) (l : List Row) : Prop :=
  (sv = .slice none 0 0 ∧ l = []) ∨ ∃ b cap, sv = .slice (some ⟨b, 0, none⟩) l.length cap ∧ b < n₀ ∧ ∀ j u, (flat l)[j]? = some u → W.cell? ⟨b, j, none⟩ = some u
theorem RowsIn.below {n₀ : Nat} {A B : World} (h : Below n₀ A B) {sv : Value} {l : List Row} : RowsIn n₀ A sv l → RowsIn n₀ B sv l
  | .inl e => .inl e
  | .inr ⟨b, cap, e, hb, hc⟩ => .inr ⟨b, cap, e, hb, fun j u hj => (h.cell (p := ⟨b, j, none⟩) hb).trans (hc j u hj)⟩
theorem RowsIn.mono {n₀ n₁ : Nat} {A : World} (h : n₀ ≤ n₁) {sv : Value} {l : List Row} : RowsIn n₀ A sv l → RowsIn n₁ A sv l
  | .inl e => .inl e
  | .inr ⟨b, cap, e, hb, hc⟩ => .inr ⟨b, cap, e, by omega, hc⟩
def backs (l : List Row) (k : Nat) : List (Nat × Row) := (List.range k).map fun j => (l.length - 1 - j, l.getD (l.length - 1 - j) ⟨0, 0, 0⟩)
theorem backs_succ (l : List Row) (k : Nat) : backs l (k + 1) = backs l k ++ [(l.length - 1 - k, l.getD (l.length - 1 - k) ⟨0, 0, 0⟩)] := by simp [backs, List.range_succ]
theorem backs_length (l : List Row) (k : Nat) : (backs l k).length = k := by simp [backs]
set_option maxRecDepth 100000 in
set_option maxHeartbeats 2000000 in
theorem back1_in (F : Fence) (n : Nat) (h8 : F.fn 159) (hro : F.round = none) (hn : 1 ≤ n) (l Bs n₀ b cap : Nat) (zs : List Row) (hreach : zs.length ≤ 4611686018427387904) (hb : b < n₀) (J Jx : List (Nat × Row) → World → Prop)
    (hY : ∀ pre x W, J pre W → pre.length < zs.length → YieldAt F (n - 1) Tryz.prog l #[.int .i64 (x.1 : Int), .agg #[.int .i32 x.2.lo, .int .i32 x.2.hi, .int .i64 x.2.n]] W fun e W' =>
      (e = .returned (.bool true) ∧ J (pre ++ [x]) W' ∧ Below n₀ W W') ∨ (e = .returned (.bool false) ∧ Jx (pre ++ [x]) W'))
    (W : World) (hBs : W.cell? ⟨Bs, 0, none⟩ = some (.slice (some ⟨b, 0, none⟩) zs.length cap)) (hBn : Bs < n₀) (hc : ∀ j u, (flat zs)[j]? = some u → W.cell? ⟨b, j, none⟩ = some u) (h0 : J [] W) :
    CallsIn F n Tryz.prog 159 #[.func (.yield l) #[] #[], .pointer (some ⟨Bs, 0, none⟩)] W fun e W' => (∃ v, e = .returned v) ∧
      ((∃ ys, ys = backs zs zs.length ∧ J ys W') ∨ (∃ pre, (∃ k, k ≤ zs.length ∧ pre = backs zs k) ∧ Jx pre W')) := by
  refine callsIn_of_wp Tryz.func159 rfl h8 ?_ hro
  simp only [Tryz.ntmps159, List.size_toArray, List.length_cons, List.length_nil, Nat.reduceAdd, Nat.reduceSub, Array.replicate_succ, Array.replicate_zero, List.push_toArray, List.append_toArray, List.nil_append, List.cons_append]
  gi_wp2
  gi_loopw [3] (fun i wr => ∃ (k : Nat) (v : Int), k ≤ zs.length ∧ i = .int .i64 v ∧ Hid (v = (zs.length : Int) - 1 - k) ∧ J (backs zs k) wr ∧ Below n₀ W wr)
    (fun i _ => (intOf i + 1).toNat)
  case atStart => exact ⟨0, (zs.length : Int) - 1, Nat.zero_le _, rfl, Lib.hid (by omega), h0, Below.refl _ _⟩
  case round =>
    obtain ⟨k, v, hk, rfl, hv, hJs, hnx⟩ := hrel
    by_cases hlt : k < zs.length
    · obtain ⟨m, hm⟩ : ∃ m, m = zs.length - 1 - k := ⟨_, rfl⟩
      have hvm : v = (m : Int) := by have := hv.out; omega
      have hml : m < zs.length := by omega
      obtain ⟨x, hx⟩ : ∃ x, zs.getD m ⟨0, 0, 0⟩ = x := ⟨_, rfl⟩
      have hx2 : zs[m]? = some x := by
        rw [← hx, List.getD_eq_getElem?_getD, List.getElem?_eq_getElem hml]; rfl
      obtain ⟨f1, f2, f3⟩ := flat_at zs m x hx2
      obtain ⟨fn, tmps, assign, body, hy, hR⟩ := hY _ (m, x) wr hJs (by rw [backs_length]; exact hlt)
      dsimp only at hy
      have g0 : wr.cell? ⟨Bs, 0, none⟩ = some (.slice (some ⟨b, 0, none⟩) zs.length cap) := (hnx.cell (p := ⟨Bs, 0, none⟩) hBn).trans hBs
      have g1 := (hnx.cell (p := ⟨b, m * 3, none⟩) hb).trans (hc _ _ f1)
      have g2 := (hnx.cell (p := ⟨b, m * 3 + 1, none⟩) hb).trans (hc _ _ f2)
      have g3 := (hnx.cell (p := ⟨b, m * 3 + 2, none⟩) hb).trans (hc _ _ f3)
      have Hb : Hid (backs zs (k + 1) = backs zs k ++ [(m, x)]) := Lib.hid (by rw [backs_succ, ← hm, hx])
      clear hx hx2 f1 f2 f3
      have hvl : v < (zs.length : Int) := by omega
      have hv0 : 0 ≤ v := by omega
      clear hv
      subst hvm
      have Hm := Lib.hid hm
      clear hm
      gi_wp2
      refine hR.mono ?_
      rintro e W3 (⟨rfl, hJ3, hk3⟩ | ⟨rfl, hJx3⟩)
      · gi_wp2
        go_roundw
        case rel => exact ⟨k + 1, (m : Int) - 1, by omega, rfl, Lib.hid (by have := Hm.out; omega), by rw [Hb.out]; exact hJ3, hnx.trans hk3⟩
        case measure => simp [intOf]
      · gi_wp2
        refine bodyPost_ret (results_none rfl _ _ _) rfl ?_
        exact ⟨⟨_, rfl⟩, .inr ⟨_, ⟨k + 1, by omega, Hb.out.symm⟩, hJx3⟩⟩
    · have hke : k = zs.length := by omega
      have hv1 : v = -1 := by have := hv.out; omega
      clear hv
      subst hke
      subst hv1
      gi_wp2
      go_end0
      exact ⟨⟨_, rfl⟩, .inl ⟨_, rfl, hJs⟩⟩
set_option maxRecDepth 100000 in
set_option maxHeartbeats 1000000 in
theorem back1_nil_in (F : Fence) (n : Nat) (h8 : F.fn 159) (hro : F.round = none) (l Bs : Nat) (J : List (Nat × Row) → World → Prop) (W : World) (hBs : W.cell? ⟨Bs, 0, none⟩ = some (.slice none 0 0)) (h0 : J [] W) :
    CallsIn F n Tryz.prog 159 #[.func (.yield l) #[] #[], .pointer (some ⟨Bs, 0, none⟩)] W fun e W' => (∃ v, e = .returned v) ∧ J [] W' := by
  refine callsIn_of_wp Tryz.func159 rfl h8 ?_ hro
  simp only [Tryz.ntmps159, List.size_toArray, List.length_cons, List.length_nil, Nat.reduceAdd, Nat.reduceSub, Array.replicate_succ, Array.replicate_zero, List.push_toArray, List.append_toArray, List.nil_append, List.cons_append]
  gi_wp2
  gi_loopw [3] (fun i wr => i = .int .i64 (-1) ∧ J [] wr) (fun _ _ => 0)
  case atStart => exact ⟨rfl, h0⟩
  case round =>
    obtain ⟨rfl, hJs⟩ := hrel
    gi_wp2
    go_end0
    exact ⟨⟨_, rfl⟩, hJs⟩
theorem back_in (F : Fence) (n : Nat) (h6 : F.fn 133) (hro : F.round = none) (a : Option Addr) (len cap : Nat) (w : World) :
    CallsIn F n Tryz.prog 133 #[.slice a len cap] w fun e w' => e = .returned (.func (.func 159) #[] #[.pointer (some ⟨w.heap.size, 0, none⟩)]) ∧ w' = w.alloc (.cells #[.slice a len cap] 91) := by
  refine callsIn_of_wp Tryz.func133 rfl h6 ?_ hro
  simp only [Tryz.ntmps133, List.size_toArray, List.length_cons, List.length_nil, Nat.reduceAdd, Nat.reduceSub, Array.replicate_succ, Array.replicate_zero, List.push_toArray, List.append_toArray, List.nil_append, List.cons_append]
  gi_wp2
  go_ret
  exact ⟨rfl, rfl⟩
theorem back_stops (F : Fence) (n : Nat) (h8 : F.fn 159) (hro : F.round = none) (hn : 1 ≤ n) (Bs n₀ : Nat) (sv : Value) (zs : List Row) (hreach : zs.length ≤ 4611686018427387904) (w : World) (hBs : Bs < n₀) (hn₀ : n₀ ≤ w.heap.size)
    (hc : w.cell? ⟨Bs, 0, none⟩ = some sv) (hI : RowsIn n₀ w sv zs) :
    SeqStopsK F n Tryz.prog 159 #[.pointer (some ⟨Bs, 0, none⟩)] (fun x : Nat × Row => #[Value.int .i64 (x.1 : Int), .agg #[.int .i32 x.2.lo, .int .i32 x.2.hi, .int .i64 x.2.n]]) (Below n₀) (fun ys => ys = backs zs zs.length)
      (fun pre => ∃ k, k ≤ zs.length ∧ pre = backs zs k) zs.length w := fun l J Jx W hW _ _ hY h0 => by
  have hc' := (hW.cell (p := ⟨Bs, 0, none⟩) (Nat.lt_of_lt_of_le hBs hn₀)).trans hc
  rcases hI.below (hW.mono hn₀) with ⟨rfl, rfl⟩ | ⟨b, cap, rfl, hb, hcs⟩
  · exact (back1_nil_in F n h8 hro l Bs J W hc' h0).mono fun e W' ⟨he, hj⟩ => ⟨he, .inl ⟨_, rfl, hj⟩⟩
  · exact back1_in F n h8 hro hn l Bs n₀ b cap zs hreach hb J Jx hY W hc' hBs hcs h0
theorem backs_rows (l : List Row) (k : Nat) (hk : k ≤ l.length) : (backs l k).map (·.2) = l.reverse.take k := by
  apply List.ext_getElem?
  intro i
  by_cases h : i < k
  · rw [List.getElem?_map, List.getElem?_take_of_lt h, List.getElem?_reverse (by omega)]
    unfold backs
    rw [List.getElem?_map, List.getElem?_range h]
    simp only [Option.map_some]
    rw [List.getD_eq_getElem?_getD, List.getElem?_eq_getElem (by omega)]
    rfl
  · rw [List.getElem?_eq_none (by simp [backs]; omega), List.getElem?_eq_none (by rw [List.length_take]; omega)]
theorem said_none (l : List Row) (r other : Int) (h : ∀ p ∈ backs l l.length, p.2.has r = false) : said l r other = other := by
  have hr : ∀ x ∈ l.reverse, x.has r = false := by
    intro x hx
    have e := backs_rows l l.length (Nat.le_refl _)
    rw [List.take_of_length_le (by simp)] at e
    rw [← e] at hx
    obtain ⟨p, hp, rfl⟩ := List.mem_map.1 hx
    exact h p hp
  unfold said
  rw [List.find?_eq_none.2 (fun x hx => by rw [hr x hx]; decide)]
theorem said_some (l : List Row) (r other : Int) (k : Nat) (hk : k ≤ l.length) (ini : List (Nat × Row)) (last : Nat × Row) (e : backs l k = ini ++ [last]) (h : ∀ p ∈ ini, p.2.has r = false) (hl : last.2.has r = true) : said l r other = last.2.n := by
  have e2 := backs_rows l k hk
  rw [e, List.map_append] at e2
  have e3 : l.reverse = (ini.map (·.2) ++ [last.2]) ++ l.reverse.drop k := by
    have := List.take_append_drop k l.reverse
    rw [← e2] at this
    exact this.symm
  unfold said
  rw [e3, List.append_assoc, List.find?_append, List.find?_eq_none.2 (fun x hx => by obtain ⟨p, hp, rfl⟩ := List.mem_map.1 hx; rw [h p hp]; decide)]
  simp [hl]
def NoHas (r : Int) (pre : List (Nat × Row)) : Prop := ∀ p ∈ pre, p.2.has r = false
theorem NoHas.snoc {r : Int} {pre : List (Nat × Row)} {x : Nat × Row} (h : NoHas r pre) (hx : x.2.has r = false) : NoHas r (pre ++ [x]) := fun p hp => (List.mem_append.1 hp).elim (h p) (fun e => by simp at e; subst e; exact hx)
def LastHas (r : Int) (pre : List (Nat × Row)) (last : Nat × Row) : Prop := ∃ ini, pre = ini ++ [last] ∧ NoHas r ini ∧ last.2.has r = true
set_option maxRecDepth 100000 in
set_option maxHeartbeats 2000000 in
theorem said_in (F : Fence) (n : Nat) (h4 : F.fn 98) (h6 : F.fn 133) (h8 : F.fn 159) (hro : F.round = none) (hn : 3 ≤ n) (a : Option Addr) (len cap : Nat) (zs : List Row) (r other : Int) (hreach : zs.length ≤ 4611686018427387904) (w : World) (hI : RowsIn w.heap.size w (.slice a len cap) zs) :
    CallsIn F n Tryz.prog 98 #[.slice a len cap, .int .i32 r, .int .i64 other] w fun e W' => e = .returned (.int .i64 (said zs r other)) ∧ Below w.heap.size w W' := by
  have h1 : 1 ≤ n := by omega
  refine callsIn_of_wp_marks Tryz.func98 rfl h4 ?_ hro
  simp only [Tryz.ntmps98, List.size_toArray, List.length_cons, List.length_nil, Nat.reduceAdd, Nat.reduceSub, Array.replicate_succ, Array.replicate_zero, List.push_toArray, List.append_toArray, List.nil_append, List.cons_append]
  gi_wp2_with (gi_at_call 133; refine (back_in F (n - 1) h6 hro _ _ _ _).mono ?_; rintro e w' ⟨rfl, rfl⟩)
  have bR := ((Boxed.new w 21 (.int .i32 r)).alloc (.cells #[.int .i64 0] 3)).alloc (.cells #[.slice a len cap] 91)
  have bS := (Boxed.new (w.alloc (.cells #[.int .i32 r] 21)) 3 (.int .i64 0)).alloc (.cells #[.slice a len cap] 91)
  have bN := Boxed.new ((w.alloc (.cells #[.int .i32 r] 21)).alloc (.cells #[.int .i64 0] 3)) 91 (.slice a len cap)
  simp only [World.size_alloc] at bS bN
  have hB0 : Below w.heap.size w (((w.alloc (.cells #[.int .i32 r] 21)).alloc (.cells #[.int .i64 0] 3)).alloc (.cells #[.slice a len cap] 91)) := (((Below.refl _ w).alloc (Nat.le_refl _) _).alloc (by simp) _).alloc (by simp; omega) _
  have hsz : (((w.alloc (.cells #[.int .i32 r] 21)).alloc (.cells #[.int .i64 0] 3)).alloc (.cells #[.slice a len cap] 91)).heap.size = w.heap.size + 3 := by simp
  obtain ⟨W0, hW0⟩ : ∃ W0, ((w.alloc (.cells #[.int .i32 r] 21)).alloc (.cells #[.int .i64 0] 3)).alloc (.cells #[.slice a len cap] 91) = W0 := ⟨_, rfl⟩
  rw [hW0] at bR bS bN hB0 hsz ⊢
  clear hW0
  refine wpIn_rangeFunc_ownH hro h1 (gf := 159) (lb := #[.pointer (some ⟨w.heap.size + 1 + 1, 0, none⟩)]) rfl h8 (enters_of Tryz.func159 (by kernel_rfl) rfl)
    (back_stops F (n - 1) h8 hro (by omega) (w.heap.size + 1 + 1) (w.heap.size + 3) _ zs hreach W0 (by omega) (by omega) bN.cell ((hI.below hB0).mono (by omega))) belowK_t (belowK_b (by omega)) (Below.refl _ _) (fun _ => rfl)
    (fun pre W => (NoHas r pre ∧ Boxed W w.heap.size 21 (.int .i32 r) ∧ Boxed W (w.heap.size + 1) 3 (.int .i64 0) ∧ Boxed W (w.heap.size + 1 + 1) 91 (.slice a len cap)) ∧ Below w.heap.size w W)
    (fun c pre W => (c = .ret ∧ ∃ last, LastHas r pre last ∧ Boxed W (w.heap.size + 1) 3 (.int .i64 last.2.n)) ∧ Below w.heap.size w W)
    (OwnFrom.and (Own.from (fun s A B row hs hg hr => ⟨hs.1, boxed_own w.heap.size 21 (fun (_ : Unit) => Value.int .i32 r) () A B row hs.2.1 hg hr, boxed_own (w.heap.size + 1) 3 (fun (_ : Unit) => Value.int .i64 0) () A B row hs.2.2.1 hg hr, boxed_own (w.heap.size + 1 + 1) 91 (fun (_ : Unit) => Value.slice a len cap) () A B row hs.2.2.2 hg hr⟩) _) (ownFrom_below (Nat.le_refl _) (by omega)))
    (fun c => OwnFrom.and (Own.from (fun s A B row hs hg hr => by obtain ⟨hc, last, e3, e4⟩ := hs; exact ⟨hc, last, e3, boxed_own (w.heap.size + 1) 3 (fun (_ : Unit) => Value.int .i64 last.2.n) () A B row e4 hg hr⟩) _) (ownFrom_below (Nat.le_refl _) (by omega)))
    ⟨⟨fun _ h => absurd h (by simp), bR, bS, bN⟩, hB0⟩
    (fun x a' W => ∃ Bx, w.heap.size + 1 < Bx ∧ (∀ j u, (rowCells x.2)[j]? = some u → W.cell? ⟨Bx, j, none⟩ = some u) ∧ a' = { tmps := #[.slice a len cap, .int .i32 r, .int .i64 other, undef, .pointer (some ⟨w.heap.size, 0, none⟩), undef, .pointer (some ⟨w.heap.size + 1, 0, none⟩), undef, .pointer (some ⟨Bx, 0, none⟩), .slice a len cap, .func (.func 159) #[] #[.pointer (some ⟨w.heap.size + 1 + 1, 0, none⟩)], .int .i64 (x.1 : Int), .agg #[.int .i32 x.2.lo, .int .i32 x.2.hi, .int .i64 x.2.n], undef, undef, undef, undef, undef, undef, undef, undef, undef, undef, undef, undef, undef, undef, undef], defers := [] })
    (fun x a' _ X Y row hs hg hr => by obtain ⟨Bx, h1, h2, h3⟩ := hs; exact ⟨Bx, h1, fun j u hj => cell_kept (h2 j u hj) hg (fun r e => (hr r e).2), h3⟩)
    ?assign ?body ?done ?stop
  case assign =>
    rintro l pre x W K ⟨⟨hp, bR1, bS1, bN1⟩, hB1⟩ hK
    gi_wp2
    refine hK _ _ ((KeepsOthers.alloc _ _).from _) ((Below.refl _ W).alloc (by have := bN1.lt; omega) _) ⟨⟨hp, bR1.alloc _, bS1.alloc _, bN1.alloc _⟩, hB1.alloc hB1.size _⟩ ⟨W.heap.size, bS1.lt, fun j u hj => ?_, rfl⟩
    unfold World.cell?
    rw [heap_alloc_new]
    simpa [rowCells] using hj
  case body =>
    rintro l pre x a' W hl _ ⟨⟨hp, bR1, bS1, bN1⟩, hB1⟩ ⟨Bx, hBx, hcx, rfl⟩ hlt
    have c0 : W.cell? ⟨Bx, 0, none⟩ = some (.int .i32 x.2.lo) := hcx 0 _ rfl
    have c1 : W.cell? ⟨Bx, 1, none⟩ = some (.int .i32 x.2.hi) := hcx 1 _ rfl
    have c2 : W.cell? ⟨Bx, 2, none⟩ = some (.int .i64 x.2.n) := hcx 2 _ rfl
    have cR := bR1.cell
    have cS := bS1.cell
    have fS := bS1.frozen
    clear hcx
    by_cases k1 : x.2.lo ≤ r
    · by_cases k2 : r ≤ x.2.hi
      · have hx : x.2.has r = true := by simp [Row.has, k1, k2]
        have Hp := Lib.hid hp
        have Hx := Lib.hid hx
        clear hp hx
        gi_wp2
        exact ⟨(KeepsOthers.setCell _ _ _).from _, ⟨⟨rfl, x, ⟨pre, rfl, Hp.out, Hx.out⟩, bS1.set _⟩, hB1.setCell (p := ⟨w.heap.size + 1, 0, none⟩) (by simp) _⟩⟩
      · have hx : x.2.has r = false := by simp [Row.has, k2]
        have k2' : x.2.hi < r := by omega
        have Hp := Lib.hid hp
        have Hx := Lib.hid hx
        clear hp hx
        gi_wp2
        exact ⟨KeepsFrom.refl _ _, Below.refl _ _, ⟨⟨Hp.out.snoc Hx.out, bR1, bS1, bN1⟩, hB1⟩⟩
    · have hx : x.2.has r = false := by simp [Row.has, k1]
      have k1' : r < x.2.lo := by omega
      have Hp := Lib.hid hp
      have Hx := Lib.hid hx
      clear hp hx
      gi_wp2
      exact ⟨KeepsFrom.refl _ _, Below.refl _ _, ⟨⟨Hp.out.snoc Hx.out, bR1, bS1, bN1⟩, hB1⟩⟩
  case done =>
    rintro D ys W hD rfl ⟨⟨hne, bR1, bS1, _⟩, hB1⟩ hK
    have cS := bS1.cell
    have fS := bS1.frozen
    have Hn : Hid (said zs r other = other) := Lib.hid (said_none zs r other hne)
    clear hne
    gi_wp2
    have hK' := (KeepsOthers.setCell W ⟨w.heap.size + 1, 0, none⟩ (.int .i64 other)).same D _ hK rfl
    refine ⟨by simp, .inl ⟨_, _, rfl, run_takeDeferred hK', ?_⟩⟩
    have hc5 := cell_kept (World.cell?_setCell_same' W ⟨w.heap.size + 1, 0, none⟩ (.int .i64 other) (by rw [cS]; rfl)) (grownBy_putObj' _ D (.deferred none)) (fun r e => by cases e; exact ⟨_, hK', rfl⟩)
    refine ⟨.int .i64 other, ?_, by rw [Hn.out], (hB1.setCell (p := ⟨w.heap.size + 1, 0, none⟩) (by simp) _).trans (belowK_b (w := w) (Nat.le_refl _) _ D _ _ (by omega) hK' rfl rfl)⟩
    simp [results, Tryz.f98, go_sem, hc5]
  case stop =>
    rintro D c pre W hD ⟨k, hk, rfl⟩ ⟨⟨rfl, last, ⟨ini, e1, e2, e3⟩, bS1⟩, hB1⟩ hK
    have cS := bS1.cell
    have Hs : Hid (said zs r other = last.2.n) := Lib.hid (said_some zs r other k hk ini last e1 e2 e3)
    clear e1 e2 e3
    gi_wp2
    refine ⟨by simp, .inl ⟨_, _, rfl, run_takeDeferred hK, ?_⟩⟩
    have hc5 := cell_kept cS (grownBy_putObj' _ D (.deferred none)) (fun r e => by cases e; exact ⟨_, hK, rfl⟩)
    refine ⟨.int .i64 last.2.n, ?_, by rw [Hs.out], hB1.trans (belowK_b (w := w) (Nat.le_refl _) _ D _ _ (by omega) hK rfl rfl)⟩
    simp [results, Tryz.f98, go_sem, hc5]
end Go.Proofs.YtikpkjpnehkbfaaGreatDoor.Pr
namespace Go.Proofs.YtikpkjpnehkbfaaGreatDoor.Pr
open Go Go.RowKit Go.Shelf Go.Proofs.YtikpkjpnehkbfaaGreatDoor.Sp Go.Proofs.YtikpkjpnehkbfaaGreatDoor.Mapl Go.Proofs.YtikpkjpnehkbfaaGreatDoor.Rowl
theorem said_calls (a : Option Addr) (len cap : Nat) (zs : List Row) (r other : Int) (hreach : zs.length ≤ 4611686018427387904) (w : World) (hI : RowsIn w.heap.size w (.slice a len cap) zs) :
    Calls Tryz.prog 98 #[.slice a len cap, .int .i32 r, .int .i64 other] w fun e W' => e = .returned (.int .i64 (said zs r other)) ∧ Below w.heap.size w W' :=
  callsIn_wide.1 (said_in .wide 3 trivial trivial trivial rfl (by decide) a len cap zs r other hreach w hI)
def Pts (n₀ : Nat) (w : World) (v : Value) (l : List Int) : Prop :=
  ∃ (b off cap : Nat), v = .slice (some ⟨b, off, none⟩) l.length cap ∧ b < n₀ ∧ l.length ≤ cap ∧ cap ≤ maxLen ∧ ∀ i x, l[i]? = some x → w.cell? ⟨b, off + i, none⟩ = some (.int .i32 x)
theorem Pts.below {n₀ : Nat} {A B : World} (h : Below n₀ A B) {v : Value} {l : List Int} : Pts n₀ A v l → Pts n₀ B v l
  | ⟨b, off, cap, e, hb, h1, h2, hc⟩ => ⟨b, off, cap, e, hb, h1, h2, fun i x hi => (h.cell (p := ⟨b, off + i, none⟩) hb).trans (hc i x hi)⟩
theorem Pts.mono {n₀ n₁ : Nat} {A : World} (h : n₀ ≤ n₁) {v : Value} {l : List Int} : Pts n₀ A v l → Pts n₁ A v l
  | ⟨b, off, cap, e, hb, r⟩ => ⟨b, off, cap, e, by omega, r⟩
def PtsMap (n₀ : Nat) (w : World) (m : Value) (l : List (Int × List Int)) : Prop :=
  ∃ (b : Nat) (es : Array MapEntry) (clk : Nat), m = .map (some b) ∧ b < n₀ ∧ w.heap[b]? = some (.map es clk) ∧ es.size = l.length ∧ ∀ (i : Nat) (p : Int × List Int), l[i]? = some p → ∃ e : MapEntry, es[i]? = some e ∧ e.key = .int .i32 p.1 ∧ Pts n₀ w e.val p.2
theorem PtsMap.below {n₀ : Nat} {A B : World} (h : Below n₀ A B) {m : Value} {l : List (Int × List Int)} : PtsMap n₀ A m l → PtsMap n₀ B m l
  | ⟨b, es, clk, e, hb, hh, hs, hc⟩ => ⟨b, es, clk, e, hb, (h.block b hb).trans hh, hs, fun i p hi => by obtain ⟨x, h1, h2, h3⟩ := hc i p hi; exact ⟨x, h1, h2, h3.below h⟩⟩
theorem PtsMap.mono {n₀ n₁ : Nat} {A : World} (h : n₀ ≤ n₁) {m : Value} {l : List (Int × List Int)} : PtsMap n₀ A m l → PtsMap n₁ A m l
  | ⟨b, es, clk, e, hb, hh, hs, hc⟩ => ⟨b, es, clk, e, by omega, hh, hs, fun i p hi => by obtain ⟨x, h1, h2, h3⟩ := hc i p hi; exact ⟨x, h1, h2, h3.mono h⟩⟩
def PairMap (n₀ : Nat) (w : World) (m : Value) (l : List (Int × List Int)) : Prop :=
  ∃ (b : Nat) (es : Array MapEntry) (clk : Nat), m = .map (some b) ∧ b < n₀ ∧ w.heap[b]? = some (.map es clk) ∧ (∀ e ∈ es.toList, ∃ x y r, e.key = .agg #[.int .i32 x, .int .i32 y] ∧ e.val = .int .i32 r ∧ least l x y = some r) ∧
    ∀ x y r, least l x y = some r → ∃ e ∈ es.toList, e.key = .agg #[.int .i32 x, .int .i32 y]
theorem PairMap.below {n₀ : Nat} {A B : World} (h : Below n₀ A B) {m : Value} {l : List (Int × List Int)} : PairMap n₀ A m l → PairMap n₀ B m l
  | ⟨b, es, clk, e, hb, hh, r⟩ => ⟨b, es, clk, e, hb, (h.block b hb).trans hh, r⟩
theorem PairMap.mono {n₀ n₁ : Nat} {A : World} (h : n₀ ≤ n₁) {m : Value} {l : List (Int × List Int)} : PairMap n₀ A m l → PairMap n₁ A m l
  | ⟨b, es, clk, e, hb, r⟩ => ⟨b, es, clk, e, by omega, r⟩
structure PropsAt (n₀ : Nat) (w : World) (p : Nat) (D : PD) : Prop where
  lt : p < n₀
  classes : ∃ sv, w.cell? ⟨p, 0, none⟩ = some sv ∧ RowsIn n₀ w sv D.classes
  kinds : ∃ sv, w.cell? ⟨p, 1, none⟩ = some sv ∧ RowsIn n₀ w sv D.kinds
  folds : ∃ m, w.cell? ⟨p, 2, none⟩ = some m ∧ PtsMap n₀ w m D.folds
  decomps : ∃ m, w.cell? ⟨p, 3, none⟩ = some m ∧ PtsMap n₀ w m D.decomps
  pairs : ∃ m, w.cell? ⟨p, 4, none⟩ = some m ∧ PairMap n₀ w m D.decomps
  small : D.classes.length ≤ 1048576 ∧ D.kinds.length ≤ 1048576 ∧ (∀ q ∈ D.folds, q.2.length ≤ 1048576) ∧ (∀ q ∈ D.decomps, q.2.length ≤ 1048576)
theorem PropsAt.below {n₀ : Nat} {A B : World} {p : Nat} {D : PD} (H : PropsAt n₀ A p D) (h : Below n₀ A B) : PropsAt n₀ B p D := by
  have hc : ∀ j, B.cell? ⟨p, j, none⟩ = A.cell? ⟨p, j, none⟩ := fun j => h.cell (p := ⟨p, j, none⟩) H.lt
  obtain ⟨s1, e1, r1⟩ := H.classes
  obtain ⟨s2, e2, r2⟩ := H.kinds
  obtain ⟨s3, e3, r3⟩ := H.folds
  obtain ⟨s4, e4, r4⟩ := H.decomps
  obtain ⟨s5, e5, r5⟩ := H.pairs
  exact ⟨H.lt, ⟨s1, (hc 0).trans e1, r1.below h⟩, ⟨s2, (hc 1).trans e2, r2.below h⟩, ⟨s3, (hc 2).trans e3, r3.below h⟩, ⟨s4, (hc 3).trans e4, r4.below h⟩, ⟨s5, (hc 4).trans e5, r5.below h⟩, H.small⟩
theorem PropsAt.mono {n₀ n₁ : Nat} {A : World} {p : Nat} {D : PD} (H : PropsAt n₀ A p D) (h : n₀ ≤ n₁) : PropsAt n₁ A p D := by
  obtain ⟨s1, e1, r1⟩ := H.classes
  obtain ⟨s2, e2, r2⟩ := H.kinds
  obtain ⟨s3, e3, r3⟩ := H.folds
  obtain ⟨s4, e4, r4⟩ := H.decomps
  obtain ⟨s5, e5, r5⟩ := H.pairs
  exact ⟨Nat.lt_of_lt_of_le H.lt h, ⟨s1, e1, r1.mono h⟩, ⟨s2, e2, r2.mono h⟩, ⟨s3, e3, r3.mono h⟩, ⟨s4, e4, r4.mono h⟩, ⟨s5, e5, r5.mono h⟩, H.small⟩
theorem RowsIn.slice {n₀ : Nat} {w : World} {sv : Value} {l : List Row} (h : RowsIn n₀ w sv l) : ∃ a c, sv = .slice a l.length c := by
  rcases h with ⟨rfl, rfl⟩ | ⟨b, cap, rfl, _⟩
  · exact ⟨_, _, rfl⟩
  · exact ⟨_, _, rfl⟩
set_option maxHeartbeats 1000000 in
theorem class_calls (p : Nat) (D : PD) (r : Int) (w : World) (H : PropsAt w.heap.size w p D) : Calls Tryz.prog 55 #[.pointer (some ⟨p, 0, none⟩), .int .i32 r] w fun e w' => e = .returned (.int .i64 (classOf D r)) ∧ Below w.heap.size w w' := by
  obtain ⟨sv, hc, hR⟩ := H.classes
  obtain ⟨a, c, rfl⟩ := hR.slice
  have hs : Hid (Calls Tryz.prog 98 #[.slice a D.classes.length c, .int .i32 r, .int .i64 0] w fun e W' => e = .returned (.int .i64 (said D.classes r 0)) ∧ Below w.heap.size w W') := Lib.hid (said_calls _ _ _ D.classes r 0 (by have := H.small.1; omega) w hR)
  have hch := Lib.hid (character_calls r w)
  have hsy := Lib.hid (syllable_calls r w)
  have hja := Lib.hid (jamo_calls r w)
  clear hR H
  by_cases k1 : isChar r = true
  · rw [k1] at hch
    by_cases k2 : isSyl r = true
    · rw [k2] at hsy
      have e : classOf D r = 0 := by simp [classOf, k2]
      rw [e]
      clear e k1 k2
      go_enter Tryz.func55, Tryz.ntmps55
      go_wp2_with (first | (go_at_call 95; refine hch.out.mono ?_; rintro e w' ⟨rfl, rfl⟩) | (go_at_call 96; refine hsy.out.mono ?_; rintro e w' ⟨rfl, rfl⟩))
      go_ret
      exact ⟨rfl, Below.refl _ _⟩
    · have k2' : isSyl r = false := by simpa using k2
      rw [k2'] at hsy
      by_cases k3 : isJamo r = true
      · rw [k3] at hja
        have e : classOf D r = 0 := by simp [classOf, k3]
        rw [e]
        clear e k1 k2 k2' k3
        go_enter Tryz.func55, Tryz.ntmps55
        go_wp2_with (first | (go_at_call 95; refine hch.out.mono ?_; rintro e w' ⟨rfl, rfl⟩) | (go_at_call 96; refine hsy.out.mono ?_; rintro e w' ⟨rfl, rfl⟩) | (go_at_call 97; refine hja.out.mono ?_; rintro e w' ⟨rfl, rfl⟩))
        go_ret
        exact ⟨rfl, Below.refl _ _⟩
      · have k3' : isJamo r = false := by simpa using k3
        rw [k3'] at hja
        have e : classOf D r = said D.classes r 0 := by simp [classOf, k1, k2', k3']
        rw [e]
        clear e k1 k2 k2' k3 k3'
        go_enter Tryz.func55, Tryz.ntmps55
        go_wp2_with (first | (go_at_call 95; refine hch.out.mono ?_; rintro e w' ⟨rfl, rfl⟩) | (go_at_call 96; refine hsy.out.mono ?_; rintro e w' ⟨rfl, rfl⟩) | (go_at_call 97; refine hja.out.mono ?_; rintro e w' ⟨rfl, rfl⟩) | (go_at_call 98; refine hs.out.mono ?_; rintro e w' ⟨rfl, hb⟩))
        go_ret
        exact ⟨rfl, hb⟩
  · have k1' : isChar r = false := by simpa using k1
    rw [k1'] at hch
    have e : classOf D r = 0 := by simp [classOf, k1']
    rw [e]
    clear e k1 k1'
    go_enter Tryz.func55, Tryz.ntmps55
    go_wp2_with (go_at_call 95; refine hch.out.mono ?_; rintro e w' ⟨rfl, rfl⟩)
    go_ret
    exact ⟨rfl, Below.refl _ _⟩
end Go.Proofs.YtikpkjpnehkbfaaGreatDoor.Pr
namespace Go.Proofs.YtikpkjpnehkbfaaGreatDoor.Pr
open Go Go.RowKit Go.Shelf Go.Proofs.YtikpkjpnehkbfaaGreatDoor.Sp Go.Proofs.YtikpkjpnehkbfaaGreatDoor.Mapl Go.Proofs.YtikpkjpnehkbfaaGreatDoor.Rowl
theorem infoRune : (Tryz.prog.info? 21).map (fun i => (i.zero, i.size, i.bytes)) = some (some (.int .i32 0), 1, 4) := by kernel_rfl
theorem ownsRow_laid {base e size n : Nat} (w : World) (xs : List Value) (hb : base ≤ w.heap.size) (hm : n ≤ maxLen) (hs : xs.length = n * size) :
    (w.alloc (.cells ⟨xs⟩ e)).ownsRow base e size (.slice (some ⟨w.heap.size, 0, none⟩) n n) n xs :=
  ⟨hs, .inr ⟨w.heap.size, n, ⟨xs⟩, rfl, hb, heap_alloc_new w _, Nat.le_refl _, hm, hs, by rw [← hs, List.take_length]⟩⟩
theorem cells_laid {e g : Nat} (w : World) (xs : List Value) (hg : g = w.heap.size) (hm : xs.length ≤ maxLen) : ∀ j u, xs[j]? = some u → (w.alloc (.cells ⟨xs⟩ e)).cell? ((⟨g, 0, none⟩ : Addr).add j) = some u := by
  subst hg
  exact (ownsRow_laid (base := 0) (size := 1) (n := xs.length) w xs (Nat.zero_le _) hm (by simp)).cells rfl
def enc (l : List Int) : List Value := l.map (Value.int .i32)
theorem enc_length (l : List Int) : (enc l).length = l.length := by simp [enc]
def OwnPts (n₀ : Nat) (w : World) (v : Value) (l : List Int) : Prop := w.ownsRow n₀ 21 1 v l.length (enc l)
theorem enc_one (l : List Int) : ∀ u ∈ enc l, u.oneCell' = true := by
  intro u hu
  simp only [enc, List.mem_map] at hu
  obtain ⟨x, _, rfl⟩ := hu
  rfl
theorem Pts.cells {w : World} {b off : Nat} {l : List Int} (h : ∀ i x, l[i]? = some x → w.cell? ⟨b, off + i, none⟩ = some (.int .i32 x)) : ∀ j u, (enc l)[j]? = some u → w.cell? ((⟨b, off, none⟩ : Addr).add j) = some u := by
  intro j u hu
  simp only [enc, List.getElem?_map, Option.map_eq_some_iff] at hu
  obtain ⟨x, hx, rfl⟩ := hu
  rw [show ((⟨b, off, none⟩ : Addr).add j) = ⟨b, off + j, none⟩ by (unfold Addr.add; split <;> simp_all)]
  exact h j x hx
theorem clone_nil (w : World) : Calls Tryz.prog 62 #[.slice none 0 0] w fun e w' => e = .returned (.slice none 0 0) ∧ w' = w := by
  have qn : ∀ (w : World) (a : Option Addr) (n c n' c' : Nat), (binOp .eql 22 (.slice a n c) (.slice none n' c')).run Tryz.prog w = .ok (.bool a.isNone) w := fun w a n c n' c' => Lib.run_eql_slice_nil w _ _ a n c n' c' Tryz.underlying22
  go_enter Tryz.func62, Tryz.ntmps62
  go_wp2
  go_ret
  exact ⟨rfl, rfl⟩
set_option maxRecDepth 100000 in
set_option maxHeartbeats 2000000 in
theorem clone_pts_any (v : Value) (l : List Int) (w : World) (h : Pts w.heap.size w v l) (hl : l.length ≤ 1073741824) : Calls Tryz.prog 62 #[v] w fun e w' => ∃ v', e = .returned v' ∧ OwnPts w.heap.size w' v' l ∧ Below w.heap.size w w' := by
  obtain ⟨b, off, cap, rfl, hb, h1, h2, hcell⟩ := h
  have hc := Lib.hid (Pts.cells hcell)
  clear hcell
  obtain ⟨i, hi, hz0, hz1, hz2⟩ := info_parts infoRune
  have hlen := enc_length l
  have hone := Lib.hid (enc_one l)
  unfold OwnPts
  generalize enc l = xs at *
  generalize l.length = n at *
  have qn : ∀ (w : World) (a : Option Addr) (n c n' c' : Nat), (binOp .eql 22 (.slice a n c) (.slice none n' c')).run Tryz.prog w = .ok (.bool a.isNone) w := fun w a n c n' c' => Lib.run_eql_slice_nil w _ _ a n c n' c' Tryz.underlying22
  go_enter Tryz.func62, Tryz.ntmps62
  go_wp2_with (at_builtin; refine wpList_append_own_at _ rfl _ _ 22 rfl w.heap.size 21 i (.int .i32 0) 1 4 Tryz.underlying22 hi hz0 hz1 hz2 rfl (by decide) _ _ _ rfl (World.ownsRow_made w #[] 0 (Nat.le_refl _) (Nat.zero_le _) rfl) ⟨b, off, none⟩ n cap xs rfl ?qc1 ?qc2 ?qc3 ?qc4 ?qc5 ?qc6 ?_)
  case qc1 => rw [hlen, Nat.mul_one]
  case qc2 => intro j u hj; exact (World.cell?_alloc_lt w _ _ (by rw [show ((⟨b, off, none⟩ : Addr).add j).block = b by (unfold Addr.add; split <;> rfl)]; exact hb)).trans (hc.out j u hj)
  case qc3 => exact hone.out
  case qc4 => simp only [maxLen]; omega
  case qc5 => omega
  case qc6 => simp
  intro v' w' hown hgrow _ hat
  go_wp2
  go_ret
  exact ⟨_, rfl, hown, ((Below.refl _ w).alloc (Nat.le_refl _) _).grown hgrow (by simp) (by intro k hk; simp [Value.ownBlock] at hk; omega)⟩
theorem clone_pts (v : Value) (l : List Int) (w : World) (h : Pts w.heap.size w v l) (hl : l.length ≤ 1048576) : Calls Tryz.prog 62 #[v] w fun e w' => ∃ v', e = .returned v' ∧ OwnPts w.heap.size w' v' l ∧ Below w.heap.size w w' := clone_pts_any v l w h (Nat.le_trans hl (by decide))
theorem found_look {n₀ : Nat} {w : World} : ∀ (es : List MapEntry) (l : List (Int × List Int)) (n : Nat), es.length = l.length → (∀ (i : Nat) (p : Int × List Int), l[i]? = some p → ∃ e : MapEntry, es[i]? = some e ∧ e.key = .int .i32 p.1 ∧ Pts n₀ w e.val p.2) → ∀ r : Int,
    match lookD l r with
    | none => found (keyI .i32 r) es n = none
    | some ps => ∃ i v, found (keyI .i32 r) es n = some (i, v) ∧ Pts n₀ w v ps
  | [], [], _, _, _, _ => rfl
  | [], _ :: _, _, h, _, _ => by simp at h
  | _ :: _, [], _, h, _, _ => by simp at h
  | e :: es, p :: l, n, hl, h, r => by
    obtain ⟨e', h1, h2, h3⟩ := h 0 p rfl
    simp only [List.getElem?_cons_zero, Option.some.injEq] at h1
    subst h1
    have ih := found_look es l (n + 1) (by simpa using hl) (fun i q hi => by simpa using h (i + 1) q (by simpa using hi)) r
    by_cases hk : p.1 = r
    · have e1 : lookD (p :: l) r = some p.2 := by simp [lookD, hk]
      rw [e1]
      refine ⟨n, e.val, ?_, h3⟩
      unfold found
      rw [h2]
      simp [keyI, hk]
    · have e1 : lookD (p :: l) r = lookD l r := by simp [lookD, hk]
      have e2 : found (keyI .i32 r) (e :: es) n = found (keyI .i32 r) es (n + 1) := by
        rw [found, h2, if_neg (by simp only [keyI, beq_self_eq_true, Bool.true_and, beq_iff_eq]; exact fun e => hk e.symm)]
      rw [e1, e2]
      exact ih
theorem zeroPts (w : World) : (zeroValue 22).run Tryz.prog w = .ok (.slice none 0 0) w := by kernel_rfl
theorem look_pts {n₀ : Nat} {w : World} {b : Nat} {l : List (Int × List Int)} (h : PtsMap n₀ w (.map (some b)) l) (r : Int) :
    ∃ v, ((lookD l r = none ∧ v = .slice none 0 0) ∨ ∃ ps, lookD l r = some ps ∧ Pts n₀ w v ps) ∧ ∀ W : World, W.heap[b]? = w.heap[b]? →
      (Instr.lookup 89 (.map (some b)) (.int .i32 r) false).run Tryz.prog W = .ok v W ∧ (Instr.lookup 89 (.map (some b)) (.int .i32 r) true).run Tryz.prog W = .ok (.tuple #[v, .bool (lookD l r).isSome]) W := by
  obtain ⟨b', es, clk, e, hb, hh, hs, hc⟩ := h
  injection e with e
  injection e with e
  subst e
  have hint : ∀ e ∈ es.toList, ∃ y, e.key = .int .i32 y := by
    intro e he
    obtain ⟨i, hi⟩ := List.mem_iff_getElem?.1 he
    have hil : i < l.length := by have := (List.getElem?_eq_some_iff.1 hi).1; simp at this; omega
    obtain ⟨e', h1, h2, _⟩ := hc i l[i] (List.getElem?_eq_getElem hil)
    rw [← Array.getElem?_toList, hi] at h1
    injection h1 with h1
    subst h1
    exact ⟨_, h2⟩
  have hf := found_look es.toList l 0 (by simpa using hs) (fun i p hi => by simpa using hc i p hi) r
  have hl : ∀ (W : World) (ok : Bool), W.heap[b]? = w.heap[b]? → _ := fun W ok hW => run_lookup (P := Tryz.prog) W (t := 89) (keyI .i32 r) (.int .i32 r) Tryz.underlying89 (hW.trans hh) (fun emp => check_int W Tryz.underlying21 emp) (find_int W Tryz.underlying21 es.toList hint) _ (zeroPts W) ok
  cases hk : lookD l r with
  | none =>
    rw [hk] at hf
    refine ⟨_, .inl ⟨rfl, rfl⟩, fun W hW => ⟨?_, ?_⟩⟩
    · rw [hl W false hW, hf]; rfl
    · rw [hl W true hW, hf]; rfl
  | some ps =>
    rw [hk] at hf
    obtain ⟨i, v, h1, h2⟩ := hf
    refine ⟨v, .inr ⟨ps, rfl, h2⟩, fun W hW => ⟨?_, ?_⟩⟩
    · rw [hl W false hW, h1]; rfl
    · rw [hl W true hW, h1]; rfl
theorem wpList_lookup_run {P : Program} {w : World} {ops : Array Oper} {rest : List Oper} {o : Oper} {a : Act} {Q : Exit → Act → World → Prop} (hgd : o.guard = none) (x k : Operand) (t : TypeId) (ok : Bool)
    (ho : o.op = .lookup t x k ok) (mv kv v : Value) (hx : a.eval x = mv) (hk : a.eval k = kv) (hrun : (Instr.lookup t mv kv ok).run P w = .ok v w) (h : wpList P ops Q rest (a.put o.dst v) w) : wpList P ops Q (o :: rest) a w := by
  refine wpList_plain hgd fun K hK => ?_
  unfold Oper.wp execOp
  simp only [ho, Sem.run_bind, Sem.run_pure, Result.andThen_ok, hx, hk, hrun]
  exact hK _ _ h
theorem decomp_look (p : Nat) (D : PD) (r : Int) (w : World) (H : PropsAt w.heap.size w p D) (hr : isSyl r = false) : Calls Tryz.prog 74 #[.pointer (some ⟨p, 0, none⟩), .int .i32 r] w fun e w' => ∃ v', e = .returned v' ∧ OwnPts w.heap.size w' v' (decompOf D r) ∧ Below w.heap.size w w' := by
  obtain ⟨mv, hc, hM⟩ := H.decomps
  have hM' := hM
  obtain ⟨b, _, _, rfl, hb, _⟩ := hM'
  have hsy := Lib.hid (syllable_calls r w)
  rw [hr] at hsy
  obtain ⟨v, hv, hl⟩ := look_pts hM r
  have hl1 : ∀ nq, (Instr.lookup 89 (.map (some b)) (.int .i32 r) false).run Tryz.prog (w.drewN nq) = .ok v (w.drewN nq) := fun nq => (hl (w.drewN nq) rfl).1
  have hcl : Hid (Calls Tryz.prog 62 #[v] w fun e w' => ∃ v', e = .returned v' ∧ OwnPts w.heap.size w' v' (decompOf D r) ∧ Below w.heap.size w w') := by
    refine Lib.hid ?_
    rcases hv with ⟨h1, rfl⟩ | ⟨ps, h1, h2⟩
    · have e : decompOf D r = [] := by simp [decompOf, hr, h1]
      rw [e]
      refine (clone_nil w).mono ?_
      rintro e w' ⟨rfl, rfl⟩
      exact ⟨_, rfl, ⟨rfl, .inl ⟨rfl, rfl⟩⟩, Below.refl _ _⟩
    · have e : decompOf D r = ps := by simp [decompOf, hr, h1]
      rw [e]
      refine clone_pts v ps w h2 ?_
      obtain ⟨q, hq, rfl⟩ := Option.map_eq_some_iff.1 h1
      exact H.small.2.2.2 q (List.mem_of_find?_eq_some hq)
  have hl2 := Lib.hid hl1
  clear hM H hv hl hl1
  go_enter Tryz.func74, Tryz.ntmps74
  go_wp2_with (first | (go_at_call 96; refine hsy.out.mono ?_; rintro e w' ⟨rfl, rfl⟩) | (at_lookup; refine wpList_lookup_run rfl _ _ _ _ rfl _ _ v rfl rfl (hl2.out 0) ?_) | (go_at_call 62; refine hcl.out.mono ?_; rintro e w' ⟨v', rfl, ho, hb⟩))
  go_ret
  exact ⟨_, rfl, ho, hb⟩
set_option maxRecDepth 100000 in
set_option maxHeartbeats 2000000 in
theorem decomp_syl (p : Nat) (D : PD) (r : Int) (w : World) (hr : isSyl r = true) : Calls Tryz.prog 74 #[.pointer (some ⟨p, 0, none⟩), .int .i32 r] w fun e w' => ∃ v', e = .returned v' ∧ OwnPts w.heap.size w' v' (decompOf D r) ∧ Below w.heap.size w w' := by
  have hsy := Lib.hid (syllable_calls r w)
  rw [hr] at hsy
  have h0 : 44032 ≤ r ∧ r < 55204 := by simpa [isSyl] using hr
  obtain ⟨h1, h2⟩ := h0
  obtain ⟨i, hi, hz0, hz1, hz2⟩ := info_parts infoRune
  have hown0 : ((w.alloc (.cells #[.int .i32 (4352 + (r - 44032) / 588), .int .i32 (4449 + (r - 44032) / 28 % 21)] 21)).alloc (.cells #[.int .i32 (4519 + (r - 44032) % 28)] 21)).ownsRow w.heap.size 21 1 (.slice (some ⟨w.heap.size, 0, none⟩) 2 2) 2 [.int .i32 (4352 + (r - 44032) / 588), .int .i32 (4449 + (r - 44032) / 28 % 21)] :=
    World.ownsRow.alloc (ownsRow_laid w _ (Nat.le_refl _) (by simp [maxLen]) rfl) _
  go_enter Tryz.func74, Tryz.ntmps74
  go_wp2_with (first | (go_at_call 96; refine hsy.out.mono ?_; rintro e w' ⟨rfl, hw⟩; subst w') | (at_builtin; refine wpList_append_own_at _ rfl _ _ 22 rfl w.heap.size 21 i (.int .i32 0) 1 4 Tryz.underlying22 hi hz0 hz1 hz2 rfl (by decide) ?v0 2 [.int .i32 (4352 + (r - 44032) / 588), .int .i32 (4449 + (r - 44032) / 28 % 21)] ?v1 ?v2 ?v3 1 1 [.int .i32 (4519 + (r - 44032) % 28)] ?v4 ?v5 ?qc2 ?qc3 ?qc4 ?qc5 ?qc6 ?_; rotate_left 11; intro v' w1 hown hgrow _ hat))
  case v0 => exact .slice (some ⟨w.heap.size, 0, none⟩) 2 2
  case v3 => exact ⟨w.heap.size + 1, 0, none⟩
  case v1 => rfl
  case v2 => exact hown0
  case v4 => rfl
  case v5 => rfl
  case qc2 => exact cells_laid (w.alloc _) _ (by simp) (by simp [maxLen])
  case qc3 => intro u hu; simp only [List.mem_singleton] at hu; subst hu; rfl
  case qc4 => simp [maxLen]
  case qc5 => omega
  case qc6 => simp; omega
  · go_ret
    have e : decompOf D r = [4352 + (r - 44032) / 588, 4449 + (r - 44032) / 28 % 21, 4519 + (r - 44032) % 28] := by
      unfold decompOf sylOf
      simp only [hr, if_true]
      rw [if_neg (by omega)]
      rfl
    rw [e]
    exact ⟨_, rfl, hown, ((((Below.refl _ w).alloc (Nat.le_refl _) _).alloc (by simp) _).grown hgrow (by simp; omega) (by intro k hk; simp [Value.ownBlock] at hk; omega))⟩
  · go_ret
    have e : decompOf D r = [4352 + (r - 44032) / 588, 4449 + (r - 44032) / 28 % 21] := by
      unfold decompOf sylOf
      simp only [hr, if_true]
      rw [if_pos (by omega)]
      rfl
    rw [e]
    exact ⟨_, rfl, ownsRow_laid w _ (Nat.le_refl _) (by simp [maxLen]) rfl, (Below.refl _ w).alloc (Nat.le_refl _) _⟩
theorem decomp_calls (p : Nat) (D : PD) (r : Int) (w : World) (H : PropsAt w.heap.size w p D) : Calls Tryz.prog 74 #[.pointer (some ⟨p, 0, none⟩), .int .i32 r] w fun e w' => ∃ v', e = .returned v' ∧ OwnPts w.heap.size w' v' (decompOf D r) ∧ Below w.heap.size w w' := by
  cases hr : isSyl r with
  | true => exact decomp_syl p D r w hr
  | false => exact decomp_look p D r w H hr
theorem eqIn_rune (d : Nat) (u v : Int) (W : World) : (Op.equalIn (d + 1) 21 (.int .i32 u) (.int .i32 v)).run Tryz.prog W = .ok (u == v) W := by
  unfold Op.equalIn
  simp [run_underlying Tryz.underlying21, Result.andThen]
theorem eqIn_pair (d : Nat) (x y a b : Int) (W : World) : (Op.equalIn (d + 2) 151 (.agg #[.int .i32 x, .int .i32 y]) (.agg #[.int .i32 a, .int .i32 b])).run Tryz.prog W = .ok (x == a && y == b) W := by
  have s1 : ∀ W, (sizeOf 21).run Tryz.prog W = .ok 1 W := fun W => by kernel_rfl
  have p1 : ∀ W (u v : Value), (part 21 #[u, v] 0).run Tryz.prog W = .ok u W := fun W u v => by kernel_rfl
  have p2 : ∀ W (u v : Value), (part 21 #[u, v] 1).run Tryz.prog W = .ok v W := fun W u v => by kernel_rfl
  unfold Op.equalIn
  simp [run_underlying Tryz.underlying151, s1, Result.andThen, Std.Legacy.Range.forIn_eq_forIn_range', List.range', p1, eqIn_rune]
  by_cases h1 : x = a
  · by_cases h2 : y = b
    · simp [h1, h2, p2, eqIn_rune, Result.andThen]
    · simp [h1, h2, p2, eqIn_rune, Result.andThen]
  · simp [h1]
theorem eq_pair (x y a b : Int) (W : World) : (Op.equal 151 (.agg #[.int .i32 x, .int .i32 y]) (.agg #[.int .i32 a, .int .i32 b])).run Tryz.prog W = .ok (x == a && y == b) W := eqIn_pair 9998 x y a b W
theorem check_pair (x y : Int) (em : Bool) (W : World) : (Instr.checkKey em 10000 151 (.agg #[.int .i32 x, .int .i32 y])).run Tryz.prog W = .ok () W := by
  have s1 : ∀ W, (sizeOf 21).run Tryz.prog W = .ok 1 W := fun W => by kernel_rfl
  have p1 : ∀ W (u v : Value), (part 21 #[u, v] 0).run Tryz.prog W = .ok u W := fun W u v => by kernel_rfl
  have p2 : ∀ W (u v : Value), (part 21 #[u, v] 1).run Tryz.prog W = .ok v W := fun W u v => by kernel_rfl
  have c1 : ∀ W (u : Int), (Instr.checkKey em 9999 21 (.int .i32 u)).run Tryz.prog W = .ok () W := fun W u => by
    unfold Instr.checkKey
    simp [run_underlying Tryz.underlying21, Result.andThen]
  unfold Instr.checkKey
  simp [run_underlying Tryz.underlying151, s1, Result.andThen, Std.Legacy.Range.forIn_eq_forIn_range', List.range', p1, p2, c1]
theorem find_pair (l : List (Int × List Int)) (x y : Int) (W : World) : ∀ (es : List MapEntry) (i : Nat), (∀ e ∈ es, ∃ x y r, e.key = .agg #[.int .i32 x, .int .i32 y] ∧ e.val = .int .i32 r ∧ least l x y = some r) →
    ((Instr.findAsking 151 (.agg #[.int .i32 x, .int .i32 y]) es i).run Tryz.prog W = .ok none W ∧ ∀ e ∈ es, e.key ≠ .agg #[.int .i32 x, .int .i32 y]) ∨
      ∃ j r, (Instr.findAsking 151 (.agg #[.int .i32 x, .int .i32 y]) es i).run Tryz.prog W = .ok (some (j, .int .i32 r)) W ∧ least l x y = some r
  | [], _, _ => .inl ⟨by simp [Instr.findAsking], by simp⟩
  | e :: es, i, h => by
    obtain ⟨a, b, r, h1, h2, h3⟩ := h e (by simp)
    by_cases hk : a = x ∧ b = y
    · obtain ⟨rfl, rfl⟩ := hk
      exact .inr ⟨i, r, by simp [Instr.findAsking, h1, h2, eq_pair, Result.andThen], h3⟩
    · have hk' : (x == a && y == b) = false := by
        simp only [Bool.and_eq_false_iff, beq_eq_false_iff_ne, ne_eq]
        by_cases hx : x = a
        · exact .inr fun hy => hk ⟨hx.symm, hy.symm⟩
        · exact .inl hx
      have e1 : (Instr.findAsking 151 (.agg #[.int .i32 x, .int .i32 y]) (e :: es) i).run Tryz.prog W = (Instr.findAsking 151 (.agg #[.int .i32 x, .int .i32 y]) es (i + 1)).run Tryz.prog W := by
        rw [Instr.findAsking]
        simp [h1, eq_pair, hk', Result.andThen]
      rw [e1]
      rcases find_pair l x y W es (i + 1) (fun e' he => h e' (by simp [he])) with ⟨h4, h5⟩ | h4
      · refine .inl ⟨h4, fun e' he => ?_⟩
        rcases List.mem_cons.1 he with rfl | he
        · rw [h1]
          intro hh
          simp only [Value.agg.injEq, Array.mk.injEq, List.cons.injEq, Value.int.injEq, true_and, and_true] at hh
          exact hk hh
        · exact h5 e' he
      · exact .inr h4
theorem look_pair {n₀ : Nat} {w : World} {b : Nat} {l : List (Int × List Int)} (h : PairMap n₀ w (.map (some b)) l) (x y : Int) (W : World) (hW : W.heap[b]? = w.heap[b]?) :
    (Instr.lookup 90 (.map (some b)) (.agg #[.int .i32 x, .int .i32 y]) true).run Tryz.prog W = .ok (match least l x y with | some r => .tuple #[.int .i32 r, .bool true] | none => .tuple #[.int .i32 0, .bool false]) W := by
  obtain ⟨b', es, clk, e, hb, hh, hk, hl⟩ := h
  simp only [Value.map.injEq, Option.some.injEq] at e
  subst e
  have hf : (Instr.findKey 151 (.agg #[.int .i32 x, .int .i32 y]) es.toList).run Tryz.prog W = (if es.toList = [] then Result.ok none W else (Instr.findAsking 151 (.agg #[.int .i32 x, .int .i32 y]) es.toList).run Tryz.prog W) := by
    cases es.toList with
    | nil => simp [Instr.findKey, run_underlying Tryz.underlying151, Instr.findNow, Result.andThen]
    | cons e es => simp [Instr.findKey, run_underlying Tryz.underlying151, Instr.findNow, Instr.sameNow, Result.andThen]
  rcases find_pair l x y W es.toList 0 hk with ⟨h1, h2⟩ | ⟨j, r, h1, h2⟩
  · have hn : least l x y = none := by
      cases hr : least l x y with
      | none => rfl
      | some r =>
        obtain ⟨e, he, hek⟩ := hl x y r hr
        exact absurd hek (h2 e he)
    rw [hn]
    rw [h1, ite_self] at hf
    simp [Instr.lookup, run_underlying Tryz.underlying90, MapKept.run_getObj_map (hW.trans hh), check_pair, hf, Result.andThen]
  · have hne : es.toList ≠ [] := by
      intro e
      rw [e] at h1
      simp [Instr.findAsking] at h1
    rw [h1, if_neg hne] at hf
    rw [h2]
    simp [Instr.lookup, run_underlying Tryz.underlying90, MapKept.run_getObj_map (hW.trans hh), check_pair, hf, Result.andThen]
def pairOut : Option Int → Value
  | some r => .tuple #[.int .i32 r, .bool true]
  | none => .tuple #[.int .i32 0, .bool false]
set_option maxHeartbeats 8000000 in
theorem compose_map (p : Nat) (D : PD) (a b : Int) (w : World) (H : PropsAt w.heap.size w p D)
    (h1 : a < 4352 ∨ 4371 ≤ a ∨ (4352 ≤ a ∧ a < 4371 ∧ b < 4449) ∨ (4352 ≤ a ∧ a < 4371 ∧ 4449 ≤ b ∧ 4470 ≤ b))
    (h2 : isSyl a = false ∨ (isSyl a = true ∧ 44032 ≤ a ∧ a < 55204 ∧ ((a - 44032) % 28 ≠ 0 ∨ ((a - 44032) % 28 = 0 ∧ b ≤ 4519) ∨ ((a - 44032) % 28 = 0 ∧ 4519 < b ∧ 4547 ≤ b)))) :
    Calls Tryz.prog 56 #[.pointer (some ⟨p, 0, none⟩), .int .i32 a, .int .i32 b] w fun e w' => e = .returned (pairOut (if classOf D a ≠ 0 then none else least D.decomps a b)) ∧ Below w.heap.size w w' := by
  obtain ⟨mv, hc, hM⟩ := H.pairs
  have hM' := hM
  obtain ⟨m, _, _, rfl, hb, _⟩ := hM'
  have hcl := Lib.hid (class_calls p D a w H)
  have hsy := Lib.hid (syllable_calls a w)
  have hlk : ∀ W, Below w.heap.size w W → _ := fun W hW => look_pair hM a b W (hW.block m hb)
  have hcell : ∀ W, Below w.heap.size w W → W.cell? ⟨p, 4, none⟩ = some (.map (some m)) := fun W hW => (hW.cell (p := ⟨p, 4, none⟩) H.lt).trans hc
  clear hM H
  generalize classOf D a = k at *
  generalize least D.decomps a b = o at *
  have hlk2 := Lib.hid hlk
  clear hlk hc
  by_cases hk : k = 0
  · subst hk
    rw [if_neg (by simp)]
    cases o with
    | none =>
      rcases h1 with h1 | h1 | ⟨h1, h1', h1''⟩ | ⟨h1, h1', h1'', h1'''⟩ <;> rcases h2 with h2 | ⟨h2, h3, h4, h5 | ⟨h5, h6⟩ | ⟨h5, h6, h7⟩⟩
      all_goals first | (exfalso; omega) | skip
      all_goals
        rw [h2] at hsy
        clear h2
        go_enter Tryz.func56, Tryz.ntmps56
        go_wp2_with (first | (go_at_call 96; refine hsy.out.mono ?_; rintro e w' ⟨rfl, rfl⟩) | (go_at_call 55; refine hcl.out.mono ?_; rintro e w1 ⟨rfl, hbw⟩; have hcell1 := hcell _ hbw; have hlk1 := Lib.hid (hlk2.out _ hbw)) | (at_lookup; refine wpList_lookup_run rfl _ _ _ _ rfl _ _ _ rfl rfl hlk1.out ?_))
        go_ret2
        exact ⟨rfl, hbw⟩
    | some r =>
      rcases h1 with h1 | h1 | ⟨h1, h1', h1''⟩ | ⟨h1, h1', h1'', h1'''⟩ <;> rcases h2 with h2 | ⟨h2, h3, h4, h5 | ⟨h5, h6⟩ | ⟨h5, h6, h7⟩⟩
      all_goals first | (exfalso; omega) | skip
      all_goals
        rw [h2] at hsy
        clear h2
        go_enter Tryz.func56, Tryz.ntmps56
        go_wp2_with (first | (go_at_call 96; refine hsy.out.mono ?_; rintro e w' ⟨rfl, rfl⟩) | (go_at_call 55; refine hcl.out.mono ?_; rintro e w1 ⟨rfl, hbw⟩; have hcell1 := hcell _ hbw; have hlk1 := Lib.hid (hlk2.out _ hbw)) | (at_lookup; refine wpList_lookup_run rfl _ _ _ _ rfl _ _ _ rfl rfl hlk1.out ?_))
        go_ret2
        exact ⟨rfl, hbw⟩
  · rw [if_pos hk]
    rcases h1 with h1 | h1 | ⟨h1, h1', h1''⟩ | ⟨h1, h1', h1'', h1'''⟩ <;> rcases h2 with h2 | ⟨h2, h3, h4, h5 | ⟨h5, h6⟩ | ⟨h5, h6, h7⟩⟩
    all_goals first | (exfalso; omega) | skip
    all_goals
      rw [h2] at hsy
      clear h2
      go_enter Tryz.func56, Tryz.ntmps56
      go_wp2_with (first | (go_at_call 96; refine hsy.out.mono ?_; rintro e w' ⟨rfl, rfl⟩) | (go_at_call 55; refine hcl.out.mono ?_; rintro e w1 ⟨rfl, hbw⟩))
      go_ret2
      exact ⟨rfl, hbw⟩
theorem compose_calls (p : Nat) (D : PD) (a b : Int) (w : World) (H : PropsAt w.heap.size w p D) :
    Calls Tryz.prog 56 #[.pointer (some ⟨p, 0, none⟩), .int .i32 a, .int .i32 b] w fun e w' => e = .returned (pairOut (composeOf D a b)) ∧ Below w.heap.size w w' := by
  by_cases h1 : 4352 ≤ a ∧ a < 4371 ∧ 4449 ≤ b ∧ b < 4470
  · have e : composeOf D a b = some (44032 + ((a - 4352) * 21 + b - 4449) * 28) := by
      unfold composeOf
      rw [if_pos h1]
    rw [e]
    obtain ⟨k1, k2, k3, k4⟩ := h1
    clear e H
    go_enter Tryz.func56, Tryz.ntmps56
    go_wp2
    go_ret2
    exact ⟨rfl, Below.refl _ _⟩
  · by_cases h2 : isSyl a = true ∧ (a - 44032) % 28 = 0 ∧ 4519 < b ∧ b < 4547
    · have e : composeOf D a b = some (a + b - 4519) := by
        unfold composeOf
        rw [if_neg h1, if_pos h2]
      rw [e]
      have hsy := Lib.hid (syllable_calls a w)
      obtain ⟨k1, k2, k3, k4⟩ := h2
      rw [k1] at hsy
      have k5 : 44032 ≤ a ∧ a < 55204 := by simpa [isSyl] using k1
      obtain ⟨k5, k6⟩ := k5
      clear e H h1 k1
      go_enter Tryz.func56, Tryz.ntmps56
      go_wp2_with (go_at_call 96; refine hsy.out.mono ?_; rintro e w' ⟨rfl, rfl⟩)
      go_ret2
      exact ⟨rfl, Below.refl _ _⟩
    · have e : composeOf D a b = if classOf D a ≠ 0 then none else least D.decomps a b := by
        unfold composeOf
        rw [if_neg h1, if_neg h2]
      rw [e]
      refine compose_map p D a b w H (by omega) ?_
      by_cases hs : isSyl a = true
      · have k5 : 44032 ≤ a ∧ a < 55204 := by simpa [isSyl] using hs
        simp only [hs, true_and] at h2
        exact .inr ⟨hs, k5.1, k5.2, by omega⟩
      · exact .inl (by simpa using hs)
end Go.Proofs.YtikpkjpnehkbfaaGreatDoor.Pr
namespace Go.Proofs.YtikpkjpnehkbfaaGreatDoor.Pr
open Go Go.RowKit Go.Shelf Go.Proofs.YtikpkjpnehkbfaaGreatDoor.Sp Go.Proofs.YtikpkjpnehkbfaaGreatDoor.Mapl Go.Proofs.YtikpkjpnehkbfaaGreatDoor.Rowl
structure ReadPts (W : World) (v : Value) (l : List Int) : Prop where
  len : l.length ≤ maxLen
  at_ : (l = [] ∧ ∃ A c, v = .slice A 0 c) ∨ ∃ b off c, v = .slice (some ⟨b, off, none⟩) l.length c ∧ ∀ (i : Nat) (x : Int), l[i]? = some x → W.cell? ⟨b, off + i, none⟩ = some (.int .i32 x)
theorem ReadPts.own {n₀ : Nat} {W : World} {v : Value} {l : List Int} (h : OwnPts n₀ W v l) : ReadPts W v l := by
  have hl := YtikpkjpnehkbfaaGreatDoor.Rowl.own_len h
  refine ⟨hl, ?_⟩
  by_cases h0 : l = []
  · subst h0
    obtain ⟨A, c, rfl⟩ := YtikpkjpnehkbfaaGreatDoor.Rowl.own_slice h
    exact .inl ⟨rfl, A, c, rfl⟩
  · obtain ⟨g, c, rfl, _, _, _, _⟩ := YtikpkjpnehkbfaaGreatDoor.Rowl.own_some h (List.length_pos_iff.2 h0)
    refine .inr ⟨g, 0, c, rfl, fun i x hi => ?_⟩
    have := World.ownsRow.cells h (g := g) rfl i (.int .i32 x) (by unfold enc; rw [List.getElem?_map, hi]; rfl)
    rw [show ((⟨g, 0, none⟩ : Addr).add i) = ⟨g, 0 + i, none⟩ by (unfold Addr.add; split <;> simp_all)] at this
    exact this
set_option maxHeartbeats 4000000 in
theorem same_calls (va vb : Value) (la lb : List Int) (w : World) (ha : ReadPts w va la) (hb : ReadPts w vb lb) :
    Calls Tryz.prog 22 #[va, vb] w fun e w' => e = .returned (.bool (decide (la = lb))) ∧ Below w.heap.size w w' := by
  have hla := ha.len
  have hlb := hb.len
  unfold maxLen at hla hlb
  by_cases hne : la.length = lb.length
  · have hA : ∃ A c, va = .slice A la.length c ∧ ∀ (i : Nat) (x : Int), la[i]? = some x → ∃ b off, A = some ⟨b, off, none⟩ ∧ w.cell? ⟨b, off + i, none⟩ = some (.int .i32 x) := by
      rcases ha.at_ with ⟨rfl, A, c, rfl⟩ | ⟨b, off, c, rfl, h⟩
      · exact ⟨A, c, rfl, fun i x h => by simp at h⟩
      · exact ⟨_, c, rfl, fun i x hi => ⟨b, off, rfl, h i x hi⟩⟩
    have hB : ∃ A c, vb = .slice A lb.length c ∧ ∀ (i : Nat) (x : Int), lb[i]? = some x → ∃ b off, A = some ⟨b, off, none⟩ ∧ w.cell? ⟨b, off + i, none⟩ = some (.int .i32 x) := by
      rcases hb.at_ with ⟨rfl, A, c, rfl⟩ | ⟨b, off, c, rfl, h⟩
      · exact ⟨A, c, rfl, fun i x h => by simp at h⟩
      · exact ⟨_, c, rfl, fun i x hi => ⟨b, off, rfl, h i x hi⟩⟩
    obtain ⟨A, c, rfl, hA⟩ := hA
    obtain ⟨A2, c2, rfl, hB⟩ := hB
    have HA := Lib.hid hA
    have HB := Lib.hid hB
    have HNE := Lib.hid hne
    rw [← hne]
    clear hA hB ha hb hne hlb
    go_enter Tryz.func22, Tryz.ntmps22
    go_wp2
    go_loopw [5] (fun vi wr => ∃ k : Nat, vi = .int .i64 k ∧ k ≤ la.length ∧ Hid (la.take k = lb.take k) ∧ Below w.heap.size w wr ∧ Hid (∀ a, wr.cell? a = w.cell? a)) (fun vi _ => la.length - (intOf vi).toNat)
    case atStart => exact ⟨0, rfl, Nat.zero_le _, Lib.hid rfl, Below.refl _ _, Lib.hid fun _ => rfl⟩
    case round =>
      obtain ⟨k, rfl, hk, hT, hBl, hC⟩ := hrel
      by_cases hlt : k < la.length
      · have hlt2 : k < lb.length := by have := HNE.out; omega
        obtain ⟨b, off, rfl, hc1⟩ := HA.out k la[k] (List.getElem?_eq_getElem hlt)
        obtain ⟨b2, off2, rfl, hc2⟩ := HB.out k lb[k] (List.getElem?_eq_getElem hlt2)
        rw [← hC.out] at hc1 hc2
        have hx1 : la[k]? = some la[k] := List.getElem?_eq_getElem hlt
        have hx2 : lb[k]? = some lb[k] := List.getElem?_eq_getElem hlt2
        have H1 := Lib.hid hx1
        have H2 := Lib.hid hx2
        generalize la[k] = x at *
        generalize lb[k] = y at *
        clear hx1 hx2
        by_cases hxy : x = y
        · have hxb : (x != y) = false := by rw [hxy]; simp
          have HT : Hid (la.take (k + 1) = lb.take (k + 1)) := Lib.hid (by rw [List.take_add_one, List.take_add_one, hT.out, H1.out, H2.out, hxy])
          clear hxy
          go_wp2
          go_region
          go_wp2
          refine ⟨⟨k + 1, by go_num, by omega, HT, hBl.trans ⟨rfl, rfl, rfl, Nat.le_refl _, fun _ _ => rfl⟩, Lib.hid fun a => hC.out a⟩, ?_⟩
          simp [intOf]
          omega
        · have hxb : (x != y) = true := bne_iff_ne.2 hxy
          have HF : Hid (decide (la = lb) = false) := Lib.hid (decide_eq_false (fun e => by
            have := H1.out
            rw [e, H2.out] at this
            injection this with this
            exact hxy this.symm))
          clear hxy
          go_wp2
          go_region
          go_wp2
          go_ret
          rw [HF.out]
          exact ⟨rfl, hBl.trans ⟨rfl, rfl, rfl, Nat.le_refl _, fun _ _ => rfl⟩⟩
      · have hke : k = la.length := by omega
        have HD : Hid (decide (la = lb) = true) := Lib.hid (decide_eq_true (by
          have := hT.out
          rw [List.take_of_length_le (by omega), List.take_of_length_le (by have := HNE.out; omega)] at this
          exact this))
        subst hke
        go_wp2
        go_ret
        rw [HD.out]
        exact ⟨rfl, hBl⟩
  · have hA : ∃ A c, va = .slice A la.length c := by
      rcases ha.at_ with ⟨rfl, A, c, rfl⟩ | ⟨b, off, c, rfl, h⟩
      · exact ⟨A, c, rfl⟩
      · exact ⟨_, c, rfl⟩
    have hB : ∃ A c, vb = .slice A lb.length c := by
      rcases hb.at_ with ⟨rfl, A, c, rfl⟩ | ⟨b, off, c, rfl, h⟩
      · exact ⟨A, c, rfl⟩
      · exact ⟨_, c, rfl⟩
    obtain ⟨A, c, rfl⟩ := hA
    obtain ⟨A2, c2, rfl⟩ := hB
    have HD : Hid (decide (la = lb) = false) := Lib.hid (decide_eq_false (fun e => hne (by rw [e])))
    have hne2 : ¬ (la.length : Int) = (lb.length : Int) := by omega
    clear ha hb hne
    go_enter Tryz.func22, Tryz.ntmps22
    go_wp2
    go_ret
    rw [HD.out]
    exact ⟨rfl, Below.refl _ _⟩
end Go.Proofs.YtikpkjpnehkbfaaGreatDoor.Pr
namespace Go.Proofs.YtikpkjpnehkbfaaGreatDoor.Pr
open Go Go.RowKit Go.Shelf Go.Proofs.YtikpkjpnehkbfaaGreatDoor.Sp Go.Proofs.YtikpkjpnehkbfaaGreatDoor.Mapl Go.Proofs.YtikpkjpnehkbfaaGreatDoor.Rowl
theorem PropsAt.on {w w' : World} {p : Nat} {D : PD} (h : PropsAt w.heap.size w p D) (hb : Below w.heap.size w w') : PropsAt w'.heap.size w' p D := (h.below hb).mono hb.size
theorem ReadPts.on {W W' : World} {v : Value} {l : List Int} (h : ReadPts W v l) (hb : Below W.heap.size W W') : ReadPts W' v l := by
  refine ⟨h.len, ?_⟩
  rcases h.at_ with h | ⟨b, off, c, e, hc⟩
  · exact .inl h
  · exact .inr ⟨b, off, c, e, fun i x hi => (hb.cell (World.block_lt_of_cell? _ _ (hc i x hi))).trans (hc i x hi)⟩
theorem ReadPts.slice {W : World} {v : Value} {l : List Int} (h : ReadPts W v l) : ∃ A c, v = .slice A l.length c := by
  rcases h.at_ with ⟨rfl, A, c, rfl⟩ | ⟨b, off, c, rfl, _⟩
  · exact ⟨A, c, rfl⟩
  · exact ⟨_, c, rfl⟩
theorem ReadPts.alloc {W : World} {v : Value} {l : List Int} (h : ReadPts W v l) (o : Obj) : ReadPts (W.alloc o) v l := h.on ((Below.refl _ W).alloc (Nat.le_refl _) o)
theorem ReadPts.new (W : World) (l : List Int) (hl : l.length ≤ maxLen) : ReadPts (W.alloc (.cells (enc l).toArray 21)) (.slice (some ⟨W.heap.size, 0, none⟩) l.length l.length) l := by
  refine ⟨hl, .inr ⟨W.heap.size, 0, l.length, rfl, fun i x hi => ?_⟩⟩
  have := cells_laid (e := 21) W (enc l) rfl (by rw [enc_length]; exact hl) i (.int .i32 x) (by unfold enc; rw [List.getElem?_map, hi]; rfl)
  rw [show ((⟨W.heap.size, 0, none⟩ : Addr).add i) = ⟨W.heap.size, 0 + i, none⟩ by (unfold Addr.add; split <;> simp_all)] at this
  exact this
theorem ReadPts.cell {W : World} {b off n c : Nat} {l : List Int} (h : ReadPts W (.slice (some ⟨b, off, none⟩) n c) l) (i : Nat) (x : Int) (hi : l[i]? = some x) : W.cell? ⟨b, off + i, none⟩ = some (.int .i32 x) := by
  rcases h.at_ with ⟨rfl, _⟩ | ⟨b', off', c', e, hc⟩
  · simp at hi
  · simp only [Value.slice.injEq, Option.some.injEq, Addr.mk.injEq] at e
    obtain ⟨⟨rfl, rfl, _⟩, _⟩ := e
    exact hc i x hi
theorem ReadPts.pos {W : World} {v : Value} {l : List Int} (h : ReadPts W v l) (hl : 0 < l.length) : ∃ b off c, v = .slice (some ⟨b, off, none⟩) l.length c := by
  rcases h.at_ with ⟨rfl, _⟩ | ⟨b, off, c, e, _⟩
  · simp at hl
  · exact ⟨b, off, c, e⟩
theorem same_true (va vb : Value) (l : List Int) (w : World) (ha : ReadPts w va l) (hb : ReadPts w vb l) :
    Calls Tryz.prog 22 #[va, vb] w fun e w' => e = .returned (.bool true) ∧ Below w.heap.size w w' :=
  (same_calls va vb l l w ha hb).mono fun e w' ⟨h1, h2⟩ => ⟨by rw [h1, decide_eq_true rfl], h2⟩
abbrev CompAt (w : World) (p : Nat) (a b r : Int) (t : Bool) : Prop := ∀ W : World, Below w.heap.size w W → Calls Tryz.prog 56 #[.pointer (some ⟨p, 0, none⟩), .int .i32 a, .int .i32 b] W fun e w' => e = .returned (.tuple #[.int .i32 r, .bool t]) ∧ Below W.heap.size W w'
theorem compAt {w : World} {p : Nat} {D : PD} (H : PropsAt w.heap.size w p D) {a b r : Int} {t : Bool} (h : pairOut (composeOf D a b) = .tuple #[.int .i32 r, .bool t]) : CompAt w p a b r t := fun W hW =>
  (compose_calls p D a b W (H.on hW)).mono fun e w' ⟨h1, h2⟩ => ⟨by rw [h1, h], h2⟩
theorem comp_some {w : World} {p : Nat} {D : PD} (H : PropsAt w.heap.size w p D) {a b r : Int} (h : composeOf D a b = some r) : CompAt w p a b r true := compAt H (by rw [h]; rfl)
theorem comp_none {w : World} {p : Nat} {D : PD} (H : PropsAt w.heap.size w p D) {a b : Int} (h : composeOf D a b = none) : CompAt w p a b 0 false := compAt H (by rw [h]; rfl)
abbrev ClassAt (w : World) (p : Nat) (r c : Int) : Prop := ∀ W : World, Below w.heap.size w W → Calls Tryz.prog 55 #[.pointer (some ⟨p, 0, none⟩), .int .i32 r] W fun e w' => e = .returned (.int .i64 c) ∧ Below W.heap.size W w'
theorem classAt {w : World} {p : Nat} {D : PD} (H : PropsAt w.heap.size w p D) {r c : Int} (h : classOf D r = c) : ClassAt w p r c := fun W hW => by
  rw [← h]; exact class_calls p D r W (H.on hW)
theorem rowAt_own {W w' : World} {l : List Int} {e : Ending} (h : ∃ v', e = .returned v' ∧ OwnPts W.heap.size w' v' l ∧ Below W.heap.size W w') : ∃ A c, e = .returned (.slice A l.length c) ∧ ReadPts w' (.slice A l.length c) l ∧ Below W.heap.size W w' := by
  obtain ⟨v, rfl, ho, hb⟩ := h
  obtain ⟨A, c, rfl⟩ := YtikpkjpnehkbfaaGreatDoor.Rowl.own_slice ho
  exact ⟨A, c, rfl, ReadPts.own ho, hb⟩
end Go.Proofs.YtikpkjpnehkbfaaGreatDoor.Pr
