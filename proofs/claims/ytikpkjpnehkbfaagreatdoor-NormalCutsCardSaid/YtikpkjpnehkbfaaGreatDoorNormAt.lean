/- What the laws of chapter 7 call, at worlds behind a given one. -/
import Derived.Test.YtikpkjpnehkbfaaGreatDoorNormWrite
import Derived.Test.YtikpkjpnehkbfaaGreatDoorNormComp
import Derived.Test.YtikpkjpnehkbfaaGreatDoorNormPiece
import Derived.Test.YtikpkjpnehkbfaaGreatDoorBTell
namespace Go.Proofs.YtikpkjpnehkbfaaGreatDoor.Nw
open Go Go.RowKit Go.Shelf Go.Proofs.YtikpkjpnehkbfaaGreatDoor.Sp Go.Proofs.YtikpkjpnehkbfaaGreatDoor.Pr Go.Proofs.YtikpkjpnehkbfaaGreatDoor.Rf Go.Proofs.YtikpkjpnehkbfaaGreatDoor.Nm Go.Proofs.YtikpkjpnehkbfaaGreatDoor.Sb
set_option linter.unusedSimpArgs false
set_option linter.unusedVariables false

/-- A row of numbers of kind k that is handed in. -/
structure ReadNum (k : IntKind) (W : World) (v : Value) (l : List Int) : Prop where
  len : l.length ≤ maxLen
  at_ : (l = [] ∧ v = .slice none 0 0) ∨ ∃ b off c, v = .slice (some ⟨b, off, none⟩) l.length c ∧ l.length ≤ c ∧ c ≤ maxLen ∧ ∀ (i : Nat) (x : Int), l[i]? = some x → W.cell? ⟨b, off + i, none⟩ = some (.int k x)
theorem ReadNum.pts {W : World} {v : Value} {l : List Int} (h : ReadNum .i32 W v l) : ReadPts W v l := ⟨h.len, by
  rcases h.at_ with ⟨e, rfl⟩ | ⟨b, off, c, e, _, _, hc⟩
  · exact .inl ⟨e, _, _, rfl⟩
  · exact .inr ⟨b, off, c, e, hc⟩⟩
theorem ReadNum.on {k : IntKind} {W W' : World} {v : Value} {l : List Int} (h : ReadNum k W v l) (hb : Below W.heap.size W W') : ReadNum k W' v l := ⟨h.len, by
  rcases h.at_ with h | ⟨b, off, c, e, h1, h2, hc⟩
  · exact .inl h
  · exact .inr ⟨b, off, c, e, h1, h2, fun i x hi => Sb.later_cell hb (hc i x hi)⟩⟩
/-- A row that is answered. -/
abbrev RowBack (r : List Int) (W : World) (e : Ending) (w' : World) : Prop := ∃ A c, e = .returned (.slice A r.length c) ∧ ReadPts w' (.slice A r.length c) r ∧ Below W.heap.size W w'
abbrev DecAt (w : World) (p : Nat) (l r : List Int) : Prop := ∀ W lv, Below w.heap.size w W → ReadPts W lv l → Calls Tryz.prog 18 #[.pointer (some ⟨p, 0, none⟩), lv] W (RowBack r W)
theorem decAt {w : World} {p : Nat} {D : PD} (H : PropsAt w.heap.size w p D) (hg : Nm.Good D) {l r : List Int} (h : decN D l = r) (hl : (flat D l).length ≤ 16777216) : DecAt w p l r := fun W lv hb hr =>
  (dec_calls_any H hg hb hr hl).mono fun e w' h' => by rw [h] at h'; exact rowAt_own h'
abbrev ComAt (w : World) (p : Nat) (l r : List Int) : Prop := ∀ W lv, Below w.heap.size w W → ReadPts W lv l → Calls Tryz.prog 19 #[.pointer (some ⟨p, 0, none⟩), lv] W (RowBack r W)
theorem comAt {w : World} {p : Nat} {D : PD} (H : PropsAt w.heap.size w p D) (hg : Nm.Good D) {l r : List Int} (h : compN D l = r) (hl : (flat D l).length ≤ 16777216) : ComAt w p l r := fun W lv hb hr =>
  (comp_calls_any H hg hb hr hl).mono fun e w' h' => by rw [h] at h'; exact rowAt_own h'
abbrev CutAt (w : World) (p : Nat) (l : List Int) (z : Int) (b : Bool) : Prop := ∀ W lv, Below w.heap.size w W → ReadPts W lv l → Calls Tryz.prog 23 #[.pointer (some ⟨p, 0, none⟩), lv, .int .i64 z] W fun e W' => e = .returned (.bool b) ∧ Below W.heap.size W W'
theorem cutAt {w : World} {p : Nat} {D : PD} (H : PropsAt w.heap.size w p D) (hg : Nm.Good D) {l : List Int} {z : Int} {b : Bool} (h : cutB D l z = b) (hl : l.length ≤ 1073741824) : CutAt w p l z b := fun W lv hb hr =>
  (cut_calls H hg z hb hr hl).mono fun e w' h' => by rw [h] at h'; exact h'
theorem same_is {va vb : Value} {la lb : List Int} {w : World} {b : Bool} (hb : decide (la = lb) = b) (h1 : ReadPts w va la) (h2 : ReadPts w vb lb) :
    Calls Tryz.prog 22 #[va, vb] w fun e w' => e = .returned (.bool b) ∧ Below w.heap.size w w' := by rw [← hb]; exact same_calls va vb la lb w h1 h2
/-! ### a stream among other rows -/
theorem Wrt.below {X n₀ : Nat} {W W' : World} {v : Value} (h : Wrt X W W' v) (hX : n₀ ≤ X) (hn : n₀ ≤ W.heap.size) (hv : ∀ g, v.ownBlock = some g → n₀ ≤ g) : Below n₀ W W' :=
  ⟨h.os, h.tape, h.output, h.size, fun k hk => h.block k (by omega) (by omega) (fun e => by have := hv k e; omega)⟩
theorem below_set {n₀ X : Nat} {W : World} (v : Value) (hX : n₀ ≤ X) : Below n₀ W (W.setCell ⟨X, 1, none⟩ v) :=
  ⟨rfl, rfl, rfl, by rw [World.size_setCell]; exact Nat.le_refl _, fun k hk => heap_setCell_other _ _ _ _ (show k ≠ X by omega)⟩
end Go.Proofs.YtikpkjpnehkbfaaGreatDoor.Nw
