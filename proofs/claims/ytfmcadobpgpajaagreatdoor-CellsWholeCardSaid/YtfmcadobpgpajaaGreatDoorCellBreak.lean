/- A range over an iterator that counts in a box and may break; calls taken over at the end. -/
import Derived.Test.YtfmcadobpgpajaaGreatDoorCellBoth
namespace Go.Proofs.YtfmcadobpgpajaaGreatDoor.Cl
open Go Go.RowKit Go.Shelf Go.Proofs.YtfmcadobpgpajaaGreatDoor.Sp Go.Proofs.YtfmcadobpgpajaaGreatDoor.Ut Go.Proofs.YtfmcadobpgpajaaGreatDoor.Pr Go.Proofs.YtfmcadobpgpajaaGreatDoor.Rf
set_option linter.unusedSimpArgs false
set_option linter.unusedVariables false

/-- The marks of the loops gone through, the latest first; each block is open. -/
def Coll (n₀ : Nat) (W : World) : List Deferred → Nat → Prop
  | [], _ => True
  | d :: ds, hi => ∃ D, d = { target := .collected D, args := #[] } ∧ n₀ ≤ D ∧ D < hi ∧ W.heap[D]? = some (.deferred (some [])) ∧ Coll n₀ W ds D
theorem Coll.up {n₀ : Nat} {W : World} : ∀ {ds : List Deferred} {hi hi' : Nat}, Coll n₀ W ds hi → hi ≤ hi' → Coll n₀ W ds hi'
  | [], _, _, _, _ => trivial
  | _ :: _, _, _, ⟨D, e, h1, h2, h3, h4⟩, h => ⟨D, e, h1, Nat.lt_of_lt_of_le h2 h, h3, h4⟩
theorem Coll.on {n₀ : Nat} {W W' : World} (hw : ∀ k, k < W.heap.size → W'.heap[k]? = W.heap[k]? ∨ ∃ o, W.heap[k]? = some o ∧ o.isCells = true) : ∀ {ds : List Deferred} {hi : Nat}, Coll n₀ W ds hi → Coll n₀ W' ds hi
  | [], _, _ => trivial
  | _ :: _, _, ⟨D, e, h1, h2, h3, h4⟩ => by
    refine ⟨D, e, h1, h2, ?_, Coll.on hw h4⟩
    rcases hw D (Array.getElem?_eq_some_iff.1 h3).1 with h | ⟨o, ho, hc⟩
    · exact h.trans h3
    · rw [h3] at ho
      injection ho with ho
      subst ho
      cases hc
theorem Coll.later {n₀ : Nat} {W W' : World} {ds : List Deferred} {hi : Nat} (h : Coll n₀ W ds hi) (hb : Below W.heap.size W W') : Coll n₀ W' ds hi := h.on (fun k hk => .inl (hb.block k hk))
theorem Coll.put {n₀ : Nat} {W : World} {X : Nat} (o : Obj) : ∀ {ds : List Deferred} {hi : Nat}, hi ≤ X → Coll n₀ W ds hi → Coll n₀ (W.putObj X o) ds hi
  | [], _, _, _ => trivial
  | _ :: _, _, hX, ⟨D, e, h1, h2, h3, h4⟩ => ⟨D, e, h1, h2, (World.putObj_heap_other (by omega)).trans h3, Coll.put o (by omega) h4⟩
theorem leave {n : Nat} {fn : Func} {tmps : Array Value} {R : Ending → World → Prop} {n₀ : Nat} : ∀ (ds : List Deferred) (hi : Nat) (W : World), n₀ ≤ W.heap.size → Coll n₀ W ds hi → (∀ W', Below n₀ W W' → LeavesIn .wide n Tryz.prog fn tmps R [] .returning W') → LeavesInM .wide n Tryz.prog fn tmps R ds .returning W
  | [], _, W, _, _, h => h W (Below.refl _ _)
  | d :: ds, _, W, h0, ⟨D, e, h1, h2, h3, h4⟩, h => by
    subst e
    refine ⟨by simp, .inl ⟨D, _, rfl, run_takeDeferred h3, ?_⟩⟩
    have hb : Below n₀ W (W.putObj D (.deferred none)) := (Below.refl n₀ W).grown (grownBy_putObj' W D _) h0 (fun k e => by cases e; exact h1)
    exact leave (n₀ := n₀) ds D _ (Nat.le_trans h0 hb.size) (Coll.put _ (Nat.le_refl _) h4) (fun W' hb' => h W' (hb.trans hb'))
/-- A range over an iterator whose round counts in a box, and goes on or breaks. -/
theorem range_break {g : Operand} {ps : Array Tmp} {body : Code} {Q : Exit → Act → World → Prop} {a : Act} {w w0 : World} {gf : Nat} {lb : Array Value} {L : List (Nat × Nat)} {B S n₀ : Nat} {st : Value} {c0 : Int} (id : Nat)
    (hps : ps.size = 2) (hg : a.eval g = .func (.func gf) #[] lb) (hG : Gives w0 gf lb L) (hb0 : Below w0.heap.size w0 w) (hB : w0.heap.size ≤ B) (hn0 : n₀ ≤ w.heap.size) (hnB : n₀ ≤ B)
    (hbox : Boxed w B 3 (.int .i64 c0)) (hs : Boxed w S 3 st) (hne : S ≠ B)
    (hbody : ∀ (l : Nat) (c : Int) (x : Nat × Nat) (W : World), Boxed W B 3 (.int .i64 c) → Boxed W S 3 st →
      body.wpIn (Fence.wide.inRound l) 1 Tryz.prog (fun e _ W' => (e = .normal ∨ e = .exit id) ∧ ∃ c' : Int, W' = W.setCell ⟨B, 0, none⟩ (.int .i64 c')) { tmps := (ps.zip (encP x)).foldl (fun t (p, v) => t.setIfInBounds p v) a.tmps, defers := [] } W)
    (hQ : ∀ (D : Nat) (W : World) (c : Int) (e : Exit), (e = .normal ∨ e = .exit id) → w.heap.size ≤ D → Boxed W B 3 (.int .i64 c) → Boxed W S 3 st → Below n₀ w W → (∀ k, k < w.heap.size → k ≠ B → W.heap[k]? = w.heap[k]?) → W.heap[D]? = some (.deferred (some [])) → Q e { a with defers := { target := .collected D, args := #[] } :: a.defers } W) :
    (Code.rangeFunc g ps Code.skip body).wp Tryz.prog Q a w := by
  refine (wpIn_wide (n := 3)).1 ?_
  have hBw := hbox.lt
  have hSw := hs.lt
  have keepO : OwnFrom w.heap.size (fun (_ : List (Nat × Nat)) W => ((∃ c : Int, Boxed W B 3 (.int .i64 c)) ∧ Boxed W S 3 st) ∧ (Below n₀ w W ∧ ∀ k, k < w.heap.size → k ≠ B → W.heap[k]? = w.heap[k]?)) := by
    rintro s W W' row ⟨⟨⟨c, h1⟩, h2⟩, h3, h4⟩ hg' hr
    have hk : ∀ k, k < w.heap.size → W'.heap[k]? = W.heap[k]? := fun k hk => hg'.block k (Nat.lt_of_lt_of_le hk h3.size) (fun e => by
      have := (hr k e.symm).1
      omega)
    refine ⟨⟨⟨c, (hk B hBw).trans h1⟩, (hk S hSw).trans h2⟩, h3.grown hg' (Nat.le_trans hn0 h3.size) (fun k e => Nat.le_trans hn0 (hr k e).1), fun k hk1 hk2 => (hk k hk1).trans (h4 k hk1 hk2)⟩
  refine wpIn_rangeFunc_ownF (F := .wide) rfl (by omega) (gf := gf) (lb := lb) hg trivial hG.enters (hG.seq 2 (by omega)) belowK_t (belowK_b hb0.size) hb0 (fun x => hps.symm)
    (fun pre W => ((∃ c : Int, Boxed W B 3 (.int .i64 c)) ∧ Boxed W S 3 st) ∧ (Below n₀ w W ∧ ∀ k, k < w.heap.size → k ≠ B → W.heap[k]? = w.heap[k]?))
    (fun c pre W => c = .exit id ∧ ((∃ c : Int, Boxed W B 3 (.int .i64 c)) ∧ Boxed W S 3 st) ∧ (Below n₀ w W ∧ ∀ k, k < w.heap.size → k ≠ B → W.heap[k]? = w.heap[k]?))
    keepO (fun c s W W' row hs hg' hr => ⟨hs.1, keepO s W W' row hs.2 hg' hr⟩) ⟨⟨⟨c0, hbox⟩, hs⟩, Below.refl _ _, fun k _ _ => rfl⟩
    (fun x => { tmps := (ps.zip (encP x)).foldl (fun t (p, v) => t.setIfInBounds p v) a.tmps, defers := [] }) ?assign ?body ?done ?stop
  case assign =>
    intro l x W K hK
    exact wpIn_skip hK
  case body =>
    rintro l pre x W ⟨⟨⟨c, h1⟩, h2⟩, h3, h4⟩ hlt
    refine wpIn_mono (hbody l c x W h1 h2) ?_
    rintro e a' W' ⟨he, c', rfl⟩
    have hset : ((∃ c : Int, Boxed (W.setCell ⟨B, 0, none⟩ (.int .i64 c')) B 3 (.int .i64 c)) ∧ Boxed (W.setCell ⟨B, 0, none⟩ (.int .i64 c')) S 3 st) ∧ (Below n₀ w (W.setCell ⟨B, 0, none⟩ (.int .i64 c')) ∧ ∀ k, k < w.heap.size → k ≠ B → (W.setCell ⟨B, 0, none⟩ (.int .i64 c')).heap[k]? = w.heap[k]?) :=
      ⟨⟨⟨c', h1.set _⟩, h2.other hne _⟩, h3.setCell (p := ⟨B, 0, none⟩) hnB _, fun k hk1 hk2 => ((grownBy_setCell' W B (.int .i64 c')).block k (Nat.lt_of_lt_of_le hk1 h3.size) (fun e => hk2 (by cases e; rfl))).trans (h4 k hk1 hk2)⟩
    rcases he with rfl | rfl
    · exact ⟨KeepsOthers.setCell _ _ _, (Below.refl _ W).setCell (p := ⟨B, 0, none⟩) hB _, hset⟩
    · exact ⟨KeepsOthers.setCell _ _ _, rfl, hset⟩
  case done =>
    rintro D ys W hD _ ⟨⟨⟨c, h1⟩, h2⟩, h3, h4⟩ hK
    exact hQ D W c .normal (.inl rfl) hD h1 h2 h3 h4 hK
  case stop =>
    rintro D c pre W hD _ ⟨rfl, ⟨⟨c, h1⟩, h2⟩, h3, h4⟩ hK
    exact wpIn_exit (hQ D W c (.exit id) (.inr rfl) hD h1 h2 h3 h4 hK)
end Go.Proofs.YtfmcadobpgpajaaGreatDoor.Cl
