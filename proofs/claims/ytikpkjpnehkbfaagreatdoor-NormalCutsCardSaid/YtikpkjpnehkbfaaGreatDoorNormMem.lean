/- A row that is handed on and grows: what memory holds. -/
import Derived.Test.YtikpkjpnehkbfaaGreatDoorRefSingle
import Derived.Test.YtikpkjpnehkbfaaGreatDoorNormOrd
namespace Go.Proofs.YtikpkjpnehkbfaaGreatDoor.Nw
open Go Go.RowKit Go.Shelf Go.Proofs.YtikpkjpnehkbfaaGreatDoor.Sp Go.Proofs.YtikpkjpnehkbfaaGreatDoor.Pr Go.Proofs.YtikpkjpnehkbfaaGreatDoor.Rf Go.Proofs.YtikpkjpnehkbfaaGreatDoor.Nm
set_option linter.unusedSimpArgs false
set_option linter.unusedVariables false

/-- A row's value turned to another one: of the older blocks that of the row alone may have changed, and the new row lies in it or in a new block. -/
structure Mvd (W W' : World) (v v' : Value) : Prop where
  os : W'.os = W.os
  tape : W'.tape = W.tape
  output : W'.output = W.output
  size : W.heap.size ≤ W'.heap.size
  block : ∀ k, k < W.heap.size → v.ownBlock ≠ some k → W'.heap[k]? = W.heap[k]?
  own : ∀ g, v'.ownBlock = some g → v.ownBlock = some g ∨ W.heap.size ≤ g
theorem Mvd.refl (W : World) (v : Value) : Mvd W W v v := ⟨rfl, rfl, rfl, Nat.le_refl _, fun _ _ _ => rfl, fun _ h => .inl h⟩
theorem Mvd.trans {W1 W2 W3 : World} {v1 v2 v3 : Value} (h : Mvd W1 W2 v1 v2) (k : Mvd W2 W3 v2 v3) : Mvd W1 W3 v1 v3 := by
  refine ⟨k.os.trans h.os, k.tape.trans h.tape, k.output.trans h.output, Nat.le_trans h.size k.size, fun i hi hn => ?_, fun g hg => ?_⟩
  · refine (k.block i (Nat.lt_of_lt_of_le hi h.size) (fun e => ?_)).trans (h.block i hi hn)
    rcases h.own i e with e | e
    · exact hn e
    · omega
  · rcases k.own g hg with e | e
    · exact h.own g e
    · exact .inr (Nat.le_trans h.size e)
theorem Mvd.later {W1 W2 W3 : World} {v v' : Value} (h : Mvd W1 W2 v v') (hb : Below W2.heap.size W2 W3) : Mvd W1 W3 v v' :=
  ⟨hb.os.trans h.os, hb.tape.trans h.tape, hb.output.trans h.output, Nat.le_trans h.size hb.size, fun i hi hn => (hb.block i (Nat.lt_of_lt_of_le hi h.size)).trans (h.block i hi hn), h.own⟩
theorem Mvd.ahead {W1 W2 W3 : World} {v v' : Value} (hb : Below W1.heap.size W1 W2) (h : Mvd W2 W3 v v') (hv : ∀ g, v.ownBlock = some g → g < W1.heap.size) : Mvd W1 W3 v v' :=
  ⟨h.os.trans hb.os, h.tape.trans hb.tape, h.output.trans hb.output, Nat.le_trans hb.size h.size, fun i hi hn => (h.block i (Nat.lt_of_lt_of_le hi hb.size) hn).trans (hb.block i hi), fun g hg => by
    rcases h.own g hg with e | e
    · exact .inl e
    · exact .inr (Nat.le_trans hb.size e)⟩
theorem Mvd.below {W W' : World} {v v' : Value} {n₀ : Nat} (h : Mvd W W' v v') (hn : n₀ ≤ W.heap.size) (hv : ∀ g, v.ownBlock = some g → n₀ ≤ g) : Below n₀ W W' :=
  ⟨h.os, h.tape, h.output, h.size, fun k hk => h.block k (by omega) (fun e => by have := hv k e; omega)⟩
theorem own_at {n₀ : Nat} {W : World} {v : Value} {L : List Int} (h : OwnPts n₀ W v L) : ∀ g, v.ownBlock = some g → n₀ ≤ g ∧ g < W.heap.size := fun g hg => by
  obtain ⟨h1, cur, h2⟩ := own_block h hg
  exact ⟨h1, (Array.getElem?_eq_some_iff.1 h2).1⟩
/-- A point more behind a row. -/
theorem wpList_append_mvd {ops : Array Oper} {rest : List Oper} {o : Oper} {ac : Act} {Q : Exit → Act → World → Prop} {W : World} {y : Int} (hgd : o.guard = none) (s x : Operand)
    (ho : o.op = .call { callee := .builtin .append, args := #[s, x], argTypes := #[22, 22] })
    (base : Nat) (v : Value) (L : List Int) (hs : ac.eval s = v) (hown : OwnPts base W v L) (hx : ac.eval x = .slice (some ⟨W.heap.size, 0, none⟩) 1 1)
    (h63 : L.length ≤ 1073741824) (hbase : base ≤ W.heap.size)
    (h : ∀ v' w', OwnPts base w' v' (L ++ [y]) → Mvd W w' v v' → (∃ g c, v' = .slice (some ⟨g, 0, none⟩) (L.length + 1) c) → wpList Tryz.prog ops Q rest (ac.put o.dst v') w') :
    wpList Tryz.prog ops Q (o :: rest) ac (W.alloc (.cells #[.int .i32 y] 21)) := by
  obtain ⟨i, hi, hz0, hz1, hz2⟩ := info_parts infoRune
  refine wpList_append_own_at (W.alloc (.cells #[.int .i32 y] 21)) hgd s x 22 ho base 21 i (.int .i32 0) 1 4 Tryz.underlying22 hi hz0 hz1 hz2 rfl (by decide) v L.length (enc L) hs (World.ownsRow.alloc hown _) ⟨W.heap.size, 0, none⟩ 1 1 (enc [y]) hx (by simp [enc]) (cells_laid W (enc [y]) rfl (by simp [enc, maxLen])) (enc_one [y]) (by simp only [maxLen]; omega) (by omega) (by rw [World.size_alloc]; omega) ?_
  intro v' w' ho' hg _ hb
  have ho2 : OwnPts base w' v' (L ++ [y]) := by
    unfold OwnPts
    rw [show enc (L ++ [y]) = enc L ++ enc [y] by simp [enc], List.length_append]
    exact ho'
  obtain ⟨g, c, e⟩ := ownsRow_succ (k := L.length) ho'
  refine h v' w' ho2 ?_ ⟨g, c, e⟩
  have hs := hg.size
  rw [World.size_alloc] at hs
  refine ⟨hg.os, hg.tape, hg.output, by omega, fun k hk hn => (hg.block k (by rw [World.size_alloc]; omega) (fun e => hn e.symm)).trans (Below.heap_alloc W _ k hk), fun g hg' => ?_⟩
  rcases hb with e | e
  · rw [e] at hg'; exact .inl hg'
  · rw [World.size_alloc] at e
    rw [e] at hg'
    injection hg' with hg'
    exact .inr (by omega)
end Go.Proofs.YtikpkjpnehkbfaaGreatDoor.Nw
