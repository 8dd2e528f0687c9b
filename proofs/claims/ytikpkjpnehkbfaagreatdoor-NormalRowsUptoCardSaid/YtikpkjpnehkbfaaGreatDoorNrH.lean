/- Lists that were handed out, written over and grown beside each other: what is known of all of them while one is written or grown. Plain laws of memory, over any program; glossarykit.ApartRunes at lists of one's own, no two of which lead to one block: true; nothing older than these lists is written. -/
import Derived.Test.YtikpkjpnehkbfaaGreatDoorNrRowLaws
import Derived.Test.YtikpkjpnehkbfaaGreatDoorProg
import Derived.WalkKit
import Derived.OwnWalk
import Derived.Deep.RegionHeld3
import Derived.Deep.DeepFit
import Derived.Laws.Pointers
import Derived.Lib.Hide
import Derived.KernelRfl
namespace Go.Proofs.YtikpkjpnehkbfaaGreatDoor.Rowl
open Go Go.RowKit
def marks (mk : Nat → Nat → Value) (k n : Nat) : List Value := (List.range n).map (mk k)
theorem marks_length (mk : Nat → Nat → Value) (k n : Nat) : (marks mk k n).length = n := by simp [marks]
theorem marks_succ (mk : Nat → Nat → Value) (k n : Nat) : marks mk k (n + 1) = marks mk k n ++ [mk k n] := by simp [marks, List.range_succ]
theorem marks_take (mk : Nat → Nat → Value) (k n m : Nat) (h : m ≤ n) : (marks mk k n).take m = marks mk k m := by
  unfold marks
  rw [← List.map_take, List.take_range, Nat.min_eq_left h]
theorem marks_get (mk : Nat → Nat → Value) (k n i : Nat) (h : i < n) : (marks mk k n)[i]? = some (mk k i) := by
  simp [marks, h]
def Rows (w : World) (B e n : Nat) (v : Nat → Value) (len : Nat → Nat) (ys : Nat → List Value) : Prop := ∀ k, k < n → w.ownsRow B e 1 (v k) (len k) (ys k)
def Dist (n : Nat) (v : Nat → Value) : Prop := ∀ j k, j < n → k < n → j ≠ k → ∀ b, (v j).ownBlock = some b → (v k).ownBlock ≠ some b
def Outer (w : World) (L : Addr) (n : Nat) (v : Nat → Value) : Prop := ∀ k, k < n → w.cell? (L.add k) = some (v k)
def Far (L : Addr) (n : Nat) (v : Nat → Value) : Prop := ∀ k, k < n → (v k).ownBlock ≠ some L.block
theorem add_block (L : Addr) (k : Nat) : (L.add k).block = L.block := by unfold Addr.add; split <;> rfl
theorem Outer.move {w w' : World} {L : Addr} {n : Nat} {v : Nat → Value} (h : Outer w L n v) (hb : w'.heap[L.block]? = w.heap[L.block]?) : Outer w' L n v := fun k hk => by
  rw [← h k hk]
  exact World.cell?_of_block (by rw [add_block]; exact hb)
theorem Outer.lt {w : World} {L : Addr} {n : Nat} {v : Nat → Value} (h : Outer w L n v) (hn : 0 < n) : L.block < w.heap.size := by
  have := h 0 hn
  rcases Nat.lt_or_ge L.block w.heap.size with h | h
  · exact h
  · simp [World.cell?, Addr.add, Array.getElem?_eq_none h] at this
theorem Outer.later {w w' : World} {L : Addr} {n : Nat} {v : Nat → Value} (h : Outer w L n v) (hb : Below w.heap.size w w') : Outer w' L n v := fun k hk => by
  exact Outer.move (n := n) h (hb.block _ (h.lt (by omega))) k hk
theorem Rows.later {w w' : World} {B e n : Nat} {v : Nat → Value} {len : Nat → Nat} {ys : Nat → List Value} (h : Rows w B e n v len ys) (hb : Below w.heap.size w w') : Rows w' B e n v len ys := fun k hk => own_later (h k hk) hb
def upd {α : Type} (f : Nat → α) (K : Nat) (x : α) : Nat → α := fun k => if k = K then x else f k
theorem upd_same {α : Type} (f : Nat → α) (K : Nat) (x : α) : upd f K x K = x := by simp [upd]
theorem upd_other {α : Type} (f : Nat → α) {K k : Nat} (x : α) (h : k ≠ K) : upd f K x k = f k := by simp [upd, h]
theorem store_rows {w : World} {B e n K i g c : Nat} {v : Nat → Value} {len : Nat → Nat} {ys : Nat → List Value} {L : Addr} (hr : Rows w B e n v len ys) (hd : Dist n v) (ho : Outer w L n v) (hf : Far L n v) (hK : K < n)
    (hv : v K = .slice (some ⟨g, 0, none⟩) (len K) c) (u : Value) :
    Rows (w.setCell ⟨g, i, none⟩ u) B e n v len (upd ys K ((ys K).set i u)) ∧ Outer (w.setCell ⟨g, i, none⟩ u) L n v := by
  have h := hr K hK
  rw [hv] at h
  obtain ⟨h1, h2⟩ := h.stored i u
  refine ⟨fun k hk => ?_, ho.move ?_⟩
  · by_cases e : k = K
    · subst e; rw [upd_same, hv]; exact h1
    · rw [upd_other _ _ e]
      refine (hr k hk).kept h2 ?_
      cases hb : (v k).ownBlock with
      | none => exact .inl rfl
      | some b =>
        right
        intro hg
        obtain rfl := Option.some.inj hg
        exact hd k K hk hK e b hb (by rw [hv]; rfl)
  · have hlt := ho.lt (by omega)
    refine h2.block _ hlt ?_
    intro e
    exact hf K hK (by rw [hv]; exact e.symm)
structure Grown (w : World) (B e n : Nat) (mk : Nat → Nat → Value) (v h : Nat → Value) (len hl : Nat → Nat) (L : Addr) (gs : Value) (K : Nat) (t : Nat) : Prop where
  old : Rows w B e n v len (fun k => marks mk k (len k))
  new : Rows w B e n h hl (fun k => marks mk k (hl k))
  le : ∀ k, k < n → len k ≤ hl k
  dist : ∀ j k, j < n → k < n → j ≠ k → ∀ b, ((v j).ownBlock = some b ∨ (h j).ownBlock = some b) → (v k).ownBlock ≠ some b ∧ (h k).ownBlock ≠ some b
  out : Outer w L n v
  far : ∀ k, k < n → (v k).ownBlock ≠ some L.block ∧ (h k).ownBlock ≠ some L.block
  row : w.ownsRow B t 1 gs K ((List.range K).map h)
  rowFar : gs.ownBlock ≠ some L.block
theorem Grown.start {w : World} {B e n : Nat} {mk : Nat → Nat → Value} {v : Nat → Value} {len : Nat → Nat} {L : Addr} (hr : Rows w B e n v len (fun k => marks mk k (len k))) (hd : Dist n v) (ho : Outer w L n v) (hf : Far L n v) (t : Nat) :
    Grown w B e n mk v v len len L (.slice none 0 0) 0 t where
  old := hr
  new := hr
  le := fun _ _ => Nat.le_refl _
  dist := fun j k hj hk hjk b hb => by
    have hb' : (v j).ownBlock = some b := by rcases hb with h | h <;> exact h
    exact ⟨hd j k hj hk hjk b hb', hd j k hj hk hjk b hb'⟩
  out := ho
  far := fun k hk => ⟨hf k hk, hf k hk⟩
  row := World.ownsRow_nil _ _ _ _
  rowFar := by simp [Value.ownBlock]
theorem Grown.later {w w' : World} {B e n : Nat} {mk : Nat → Nat → Value} {v h : Nat → Value} {len hl : Nat → Nat} {L : Addr} {gs : Value} {K t : Nat} (G : Grown w B e n mk v h len hl L gs K t) (hb : Below w.heap.size w w') : Grown w' B e n mk v h len hl L gs K t :=
  { G with old := G.old.later hb, new := G.new.later hb, out := G.out.later hb, row := own_later G.row hb }
theorem Grown.append {w w' : World} {B e n : Nat} {mk : Nat → Nat → Value} {v h : Nat → Value} {len hl : Nat → Nat} {L : Addr} {gs : Value} {K t : Nat} (G : Grown w B e n mk v h len hl L gs K t) (hK : K < n) (hte : e ≠ t) {v' : Value}
    (ho : w'.ownsRow B e 1 v' (hl K + 1) (marks mk K (hl K) ++ [mk K (hl K)])) (hg : w.grownBy w' (h K).ownBlock)
    (hs : (∃ g cap, h K = .slice (some ⟨g, 0, none⟩) (hl K) cap ∧ v' = .slice (some ⟨g, 0, none⟩) (hl K + 1) cap) ∨ (v'.ownBlock = some w.heap.size ∧ w.grownBy w' none)) :
    Grown w' B e n mk v (upd h K v') len (upd hl K (hl K + 1)) L gs K t := by
  have hLlt := G.out.lt (by omega)
  have blk : v'.ownBlock = (h K).ownBlock ∨ v'.ownBlock = some w.heap.size := by
    rcases hs with ⟨g, cap, e1, e2⟩ | ⟨e1, _⟩
    · left; rw [e1, e2]; rfl
    · exact .inr e1
  have keep : ∀ (u : Value) (m b q : Nat) (xs : List Value), w.ownsRow b q 1 u m xs → (∀ g, u.ownBlock = some g → (h K).ownBlock ≠ some g) → w'.ownsRow b q 1 u m xs := fun u m b q xs hu hne => hu.kept hg (by
    cases hb : u.ownBlock with
    | none => exact .inl rfl
    | some g => exact .inr (fun e => hne g hb e.symm))
  refine ⟨fun k hk => ?_, fun k hk => ?_, fun k hk => ?_, ?_, ?_, ?_, ?_, G.rowFar⟩
  · by_cases ek : k = K
    · subst ek
      rcases hs with ⟨g, cap, e1, e2⟩ | ⟨e1, hgn⟩
      · by_cases hbk : (v k).ownBlock = some g
        · have hv := G.old k hk
          obtain ⟨A, c, hvs⟩ := own_slice hv
          rw [hvs] at hbk hv ⊢
          cases A with
          | none => simp [Value.ownBlock] at hbk
          | some a =>
            simp only [Value.ownBlock, Option.some.injEq] at hbk
            have ha : a = ⟨g, 0, none⟩ := by
              rcases hv.2 with ⟨h2, _⟩ | ⟨g', cap', cur, h2, _⟩
              · simp at h2
              · simp only [Value.slice.injEq, Option.some.injEq, true_and] at h2
                obtain ⟨rfl, _⟩ := h2
                simp only at hbk
                rw [hbk]
            subst ha
            have hn := G.new k hk
            rw [e1] at hn
            obtain ⟨hc, _⟩ := same_block (by decide) hn hv (G.le k hk)
            subst hc
            rw [e2] at ho
            have := sub_row ho (Nat.le_succ_of_le (G.le k hk))
            rw [Nat.mul_one, ← marks_succ, marks_take _ _ _ _ (Nat.le_succ_of_le (G.le k hk))] at this
            exact this
        · exact keep _ _ _ _ _ (G.old k hk) (fun g' hg' e' => by
            rw [e1] at e'
            simp only [Value.ownBlock, Option.some.injEq] at e'
            subst e'
            exact hbk hg')
      · exact (G.old k hk).kept hgn (by
          cases hb : (v k).ownBlock with
          | none => exact .inl rfl
          | some g => exact .inr (by simp))
    · exact keep _ _ _ _ _ (G.old k hk) (fun g hg' => (G.dist k K hk hK ek g (.inl hg')).2)
  · by_cases ek : k = K
    · subst ek
      show w'.ownsRow B e 1 _ _ (marks mk k (upd hl k (hl k + 1) k))
      rw [upd_same, upd_same, marks_succ]; exact ho
    · show w'.ownsRow B e 1 _ _ (marks mk k (upd hl K (hl K + 1) k))
      rw [upd_other _ _ ek, upd_other _ _ ek]
      exact keep _ _ _ _ _ (G.new k hk) (fun g hg' => (G.dist k K hk hK ek g (.inr hg')).2)
  · by_cases ek : k = K
    · subst ek; rw [upd_same]; exact Nat.le_succ_of_le (G.le k hk)
    · rw [upd_other _ _ ek]; exact G.le k hk
  · intro j k hj hk hjk b hb
    have lt1 : ∀ m, m < n → (v m).ownBlock ≠ some w.heap.size := fun m hm e => by have := ((G.old m hm).lt _ e).2; omega
    have lt2 : ∀ m, m < n → (h m).ownBlock ≠ some w.heap.size := fun m hm e => by have := ((G.new m hm).lt _ e).2; omega
    by_cases ej : j = K
    · subst ej
      have ek : k ≠ j := fun e => hjk e.symm
      rw [upd_same] at hb
      rw [upd_other _ _ ek]
      rcases hb with hb | hb
      · exact G.dist j k hj hk hjk b (.inl hb)
      · rcases blk with e1 | e1
        · exact G.dist j k hj hk hjk b (.inr (e1.symm.trans hb))
        · rw [e1] at hb
          obtain rfl := Option.some.inj hb
          exact ⟨lt1 k hk, lt2 k hk⟩
    · rw [upd_other _ _ ej] at hb
      by_cases ek : k = K
      · subst ek
        rw [upd_same]
        have hd := G.dist j k hj hk hjk b hb
        refine ⟨hd.1, fun e2 => ?_⟩
        rcases blk with e1 | e1
        · exact hd.2 (e1.symm.trans e2)
        · rw [e1] at e2
          obtain rfl := Option.some.inj e2
          rcases hb with hb | hb
          · exact lt1 j hj hb
          · exact lt2 j hj hb
      · rw [upd_other _ _ ek]
        exact G.dist j k hj hk hjk b hb
  · exact G.out.move (hg.block _ hLlt (fun e => (G.far K hK).2 e.symm))
  · intro k hk
    refine ⟨(G.far k hk).1, ?_⟩
    by_cases ek : k = K
    · subst ek
      rw [upd_same]
      rcases blk with e1 | e1
      · rw [e1]; exact (G.far k hk).2
      · rw [e1]; intro e2; have := Option.some.inj e2; omega
    · rw [upd_other _ _ ek]; exact (G.far k hk).2
  · have e1 : (List.range K).map (upd h K v') = (List.range K).map h := List.map_congr_left fun k hk => upd_other _ _ (by have := List.mem_range.1 hk; omega)
    rw [e1]
    exact keep _ _ _ _ _ G.row (fun g hg' e' => by
      rcases other_type (G.new K hK) G.row hte with h0 | h0
      · rw [h0] at e'; cases e'
      · exact h0 (e'.trans hg'.symm))
theorem Grown.put {w w' : World} {B e n : Nat} {mk : Nat → Nat → Value} {v h : Nat → Value} {len hl : Nat → Nat} {L : Addr} {gs gs' : Value} {K t : Nat} (G : Grown w B e n mk v h len hl L gs K t) (hK : K < n) (hte : e ≠ t)
    (ho : w'.ownsRow B t 1 gs' (K + 1) ((List.range K).map h ++ [h K])) (hg : w.grownBy w' gs.ownBlock) (hs : gs'.ownBlock = gs.ownBlock ∨ gs'.ownBlock = some w.heap.size) :
    Grown w' B e n mk v h len hl L gs' (K + 1) t := by
  have hLlt := G.out.lt (by omega)
  have keep : ∀ (u : Value) (m : Nat) (xs : List Value), w.ownsRow B e 1 u m xs → w'.ownsRow B e 1 u m xs := fun u m xs hu => hu.kept hg (other_type hu G.row hte)
  refine ⟨fun k hk => keep _ _ _ (G.old k hk), fun k hk => keep _ _ _ (G.new k hk), G.le, G.dist, G.out.move (hg.block _ hLlt (fun e => G.rowFar e.symm)), G.far, ?_, ?_⟩
  · rw [List.range_succ, List.map_append]; exact ho
  · rcases hs with e1 | e1
    · rw [e1]; exact G.rowFar
    · rw [e1]; intro e2; have := Option.some.inj e2; omega
def First (w : World) (B e n K : Nat) (mk : Nat → Nat → Value) (v : Nat → Value) (len : Nat → Nat) (L : Addr) (I : Nat) (wr : World) : Prop :=
  ∃ ys : Nat → List Value, Rows wr B e n v len ys ∧ (∀ j, j < K → ys j = marks mk j (len j)) ∧ (∀ i, i < I → (ys K)[i]? = some (mk K i)) ∧ Outer wr L n v ∧ Below B w wr
section
variable {w : World} {B e n K : Nat} {mk : Nat → Nat → Value} {v : Nat → Value} {len : Nat → Nat} {L : Addr} {I : Nat} {wr : World}
theorem First.later {w' : World} (h : First w B e n K mk v len L I wr) (hB : B ≤ w.heap.size) (hb : Below wr.heap.size wr w') : First w B e n K mk v len L I w' := by
  obtain ⟨ys, h1, h2, h3, h4, h5⟩ := h
  exact ⟨ys, h1.later hb, h2, h3, h4.later hb, h5.trans (hb.mono (Nat.le_trans hB h5.size))⟩
theorem First.next (h : First w B e n K mk v len L (len K) wr) (hK : K < n) : First w B e n (K + 1) mk v len L 0 wr := by
  obtain ⟨ys, h1, h2, h3, h4, h5⟩ := h
  refine ⟨ys, h1, fun j hj => ?_, fun _ h => absurd h (Nat.not_lt_zero _), h4, h5⟩
  by_cases e : j = K
  · subst e
    have hl := (h1 j hK).1
    rw [Nat.mul_one] at hl
    refine List.ext_getElem? fun i => ?_
    by_cases hi : i < len j
    · rw [h3 i hi, marks_get _ _ _ _ hi]
    · rw [List.getElem?_eq_none (by omega), List.getElem?_eq_none (by rw [marks_length]; omega)]
  · exact h2 j (by omega)
theorem First.store {g c : Nat} (h : First w B e n K mk v len L I wr) (hd : Dist n v) (hf : Far L n v) (hK : K < n) (hv : v K = .slice (some ⟨g, 0, none⟩) (len K) c) (hI : I < len K) : First w B e n K mk v len L (I + 1) (wr.setCell ⟨g, I, none⟩ (mk K I)) := by
  obtain ⟨ys, h1, h2, h3, h4, h5⟩ := h
  have hl := (h1 K hK).1
  rw [Nat.mul_one] at hl
  obtain ⟨a1, a2⟩ := store_rows (i := I) h1 hd h4 hf hK hv (mk K I)
  have hg := (h1 K hK).lt g (by rw [hv]; rfl)
  refine ⟨_, a1, fun j hj => by rw [upd_other _ _ (by omega)]; exact h2 j hj, fun i hi => ?_, a2, h5.setCell (p := ⟨g, I, none⟩) hg.1 _⟩
  rw [upd_same]
  by_cases e : i = I
  · subst e; rw [List.getElem?_set_self (by omega)]
  · rw [List.getElem?_set_ne (by omega)]; exact h3 i (by omega)
end
def Second (w : World) (B e t n K : Nat) (mk : Nat → Nat → Value) (v : Nat → Value) (len : Nat → Nat) (L : Addr) (gs : Value) (I : Nat) (g7 : Value) (wr : World) : Prop :=
  ∃ h hl, Grown wr B e n mk v h len hl L gs K t ∧ (∀ k, k < K → hl k = len k + 64) ∧ (∀ k, K < k → k < n → h k = v k ∧ hl k = len k) ∧ (K < n → h K = g7 ∧ hl K = len K + I) ∧ Below B w wr
section
variable {w : World} {B e t n K : Nat} {mk : Nat → Nat → Value} {v : Nat → Value} {len : Nat → Nat} {L : Addr} {gs : Value} {I : Nat} {g7 : Value} {wr : World}
theorem Second.later {w' : World} (h : Second w B e t n K mk v len L gs I g7 wr) (hB : B ≤ w.heap.size) (hb : Below wr.heap.size wr w') : Second w B e t n K mk v len L gs I g7 w' := by
  obtain ⟨h', hl, h1, h2, h3, h4, h5⟩ := h
  exact ⟨h', hl, h1.later hb, h2, h3, h4, h5.trans (hb.mono (Nat.le_trans hB h5.size))⟩
theorem Second.start (h : First w B e n n mk v len L 0 wr) (hd : Dist n v) (hf : Far L n v) (t : Nat) : Second w B e t n 0 mk v len L (.slice none 0 0) 0 (v 0) wr := by
  obtain ⟨ys, h1, h2, h3, h4, h5⟩ := h
  refine ⟨v, len, Grown.start (fun k hk => ?_) hd h4 hf t, fun _ h => absurd h (Nat.not_lt_zero _), fun _ _ _ => ⟨rfl, rfl⟩, fun _ => ⟨rfl, by omega⟩, h5⟩
  have := h1 k hk
  rw [h2 k hk] at this
  exact this
theorem Second.append {w' : World} {v' : Value} (h : Second w B e t n K mk v len L gs I g7 wr) (hK : K < n) (hte : e ≠ t)
    (ho : w'.ownsRow B e 1 v' (len K + I + 1) (marks mk K (len K + I) ++ [mk K (len K + I)])) (hg : wr.grownBy w' g7.ownBlock)
    (hs : (∃ g cap, g7 = .slice (some ⟨g, 0, none⟩) (len K + I) cap ∧ v' = .slice (some ⟨g, 0, none⟩) (len K + I + 1) cap) ∨ (v'.ownBlock = some wr.heap.size ∧ wr.grownBy w' none)) (hbl : B ≤ wr.heap.size) :
    Second w B e t n K mk v len L gs (I + 1) v' w' := by
  obtain ⟨h', hl, h1, h2, h3, h4, h5⟩ := h
  obtain ⟨e1, e2⟩ := h4 hK
  have hlt := (h1.new K hK).lt
  rw [e1] at hlt
  refine ⟨upd h' K v', upd hl K (hl K + 1), h1.append hK hte (by rw [e2]; exact ho) (by rw [e1]; exact hg) (by rw [e1, e2]; exact hs), fun k hk => by rw [upd_other _ _ (by omega)]; exact h2 k hk, fun k hk hk2 => ?_, fun _ => ?_, h5.grown hg hbl (fun k hk => (hlt k hk).1)⟩
  · rw [upd_other _ _ (by omega), upd_other _ _ (by omega)]; exact h3 k hk hk2
  · rw [upd_same, upd_same, e2]; exact ⟨rfl, by omega⟩
theorem Second.put {w' : World} {gs' : Value} {xs : List Value} (h : Second w B e t n K mk v len L gs 64 g7 wr) (hK : K < n) (hte : e ≠ t) (hx : wr.ownsRow B t 1 gs K xs)
    (ho : w'.ownsRow B t 1 gs' (K + 1) (xs ++ [g7])) (hg : wr.grownBy w' gs.ownBlock) (hs : gs'.ownBlock = gs.ownBlock ∨ gs'.ownBlock = some wr.heap.size) (hbl : B ≤ wr.heap.size) :
    Second w B e t n (K + 1) mk v len L gs' 0 (v (K + 1)) w' := by
  obtain ⟨h', hl, h1, h2, h3, h4, h5⟩ := h
  obtain ⟨e1, e2⟩ := h4 hK
  have hlt := h1.row.lt
  rw [own_unique hx h1.row] at ho
  refine ⟨h', hl, h1.put hK hte (by rw [e1]; exact ho) hg hs, fun k hk => ?_, fun k hk hk2 => h3 k (by omega) hk2, fun hk => ?_, h5.grown hg hbl (fun k hk => (hlt k hk).1)⟩
  · by_cases ek : k = K
    · subst ek; exact e2
    · exact h2 k (by omega)
  · have := h3 (K + 1) (by omega) hk
    exact ⟨this.1, by omega⟩
end
def Third (w : World) (B e t n : Nat) (mk : Nat → Nat → Value) (v : Nat → Value) (len : Nat → Nat) (L : Addr) (gs : Value) (wr : World) : Prop :=
  ∃ h hl, Grown wr B e n mk v h len hl L gs n t ∧ (∀ k, k < n → hl k = len k + 64) ∧ Below B w wr
theorem Second.done {w : World} {B e t n : Nat} {mk : Nat → Nat → Value} {v : Nat → Value} {len : Nat → Nat} {L : Addr} {gs g7 : Value} {I : Nat} {wr : World} (h : Second w B e t n n mk v len L gs I g7 wr) : Third w B e t n mk v len L gs wr := by
  obtain ⟨h', hl, h1, h2, _, _, h5⟩ := h
  exact ⟨h', hl, h1, h2, h5⟩
theorem Third.later {w : World} {B e t n : Nat} {mk : Nat → Nat → Value} {v : Nat → Value} {len : Nat → Nat} {L : Addr} {gs : Value} {wr w' : World} (h : Third w B e t n mk v len L gs wr) (hB : B ≤ w.heap.size) (hb : Below wr.heap.size wr w') : Third w B e t n mk v len L gs w' := by
  obtain ⟨h', hl, h1, h2, h5⟩ := h
  exact ⟨h', hl, h1.later hb, h2, h5.trans (hb.mono (Nat.le_trans hB h5.size))⟩
theorem Third.oldCell {w : World} {B e t n : Nat} {mk : Nat → Nat → Value} {v : Nat → Value} {len : Nat → Nat} {bL oL : Nat} {gs : Value} {wr : World} (h : Third w B e t n mk v len ⟨bL, oL, none⟩ gs wr) {M : Nat} (hM : M < n) :
    ∃ A c, v M = .slice A (len M) c ∧ wr.cell? ⟨bL, oL + M, none⟩ = some (.slice A (len M) c) ∧ ∀ I, I < len M → ∃ g, A = some ⟨g, 0, none⟩ ∧ wr.cell? ⟨g, I, none⟩ = some (mk M I) := by
  obtain ⟨h', hl, G, _⟩ := h
  have hr := G.old M hM
  obtain ⟨A, c, ev⟩ := own_slice hr
  refine ⟨A, c, ev, by rw [← ev, ← G.out M hM, Addr.add_lit], fun I hI => ?_⟩
  obtain ⟨g, c', e, _⟩ := own_some hr (by omega)
  rw [ev] at e
  injection e with e1 _ e3
  subst e1
  subst e3
  rw [ev] at hr
  exact ⟨g, rfl, by rw [hr.cellAt I (by omega), marks_get _ _ _ _ hI]⟩
theorem Third.newCell {w : World} {B e t n : Nat} {mk : Nat → Nat → Value} {v : Nat → Value} {len : Nat → Nat} {L : Addr} {gs : Value} {wr : World} (h : Third w B e t n mk v len L gs wr) {M : Nat} (hM : M < n) :
    ∃ bg cg A c, gs = .slice (some ⟨bg, 0, none⟩) n cg ∧ wr.cell? ⟨bg, M, none⟩ = some (.slice A (len M + 64) c) ∧ ∀ I, I < len M + 64 → ∃ g, A = some ⟨g, 0, none⟩ ∧ wr.cell? ⟨g, I, none⟩ = some (mk M I) := by
  obtain ⟨h', hl, G, e2, _⟩ := h
  obtain ⟨bg, cg, eg, _⟩ := own_some G.row (by omega)
  have hr := G.new M hM
  simp only [e2 M hM] at hr
  obtain ⟨A, c, ev⟩ := own_slice hr
  have hrow := G.row
  rw [eg] at hrow
  refine ⟨bg, cg, A, c, eg, ?_, fun I hI => ?_⟩
  · rw [hrow.cellAt M (by omega), ← ev]
    simp [hM]
  · obtain ⟨g, c', e, _⟩ := own_some hr (by omega)
    rw [ev] at e
    injection e with e1 _ e3
    subst e1
    subst e3
    rw [ev] at hr
    exact ⟨g, rfl, by rw [hr.cellAt I (by omega), marks_get _ _ _ _ hI]⟩
end Go.Proofs.YtikpkjpnehkbfaaGreatDoor.Rowl
namespace Go.Proofs.YtikpkjpnehkbfaaGreatDoor.Rowl
open Go Go.RowKit
theorem infoRunes : (Tryz.prog.info? 21).map (fun i => (i.zero, i.size, i.bytes)) = some (some (Value.int .i32 0), 1, 4) := by kernel_rfl
theorem infoRowRunes : (Tryz.prog.info? 22).map (fun i => (i.zero, i.size, i.bytes)) = some (some (.slice none 0 0), 1, 24) := by kernel_rfl
set_option maxHeartbeats 4000000 in
set_option maxRecDepth 100000 in
theorem ApartRunes_calls (mk : Nat → Nat → Int) (hM : ∀ (k i : Int) (w : World), 0 ≤ k → k < 4294967296 → 0 ≤ i → i < 1099511628000 → Calls Tryz.prog 60 #[.int .i64 k, .int .i64 i] w fun e w' => e = .returned (Value.int .i32 (mk k.toNat i.toNat)) ∧ Below w.heap.size w w')
    (w : World) (B n : Nat) (v : Nat → Value) (len : Nat → Nat) (ys : Nat → List Value) (bL oL cL : Nat)
    (hr : Rows w B 21 n v len ys) (hd : Dist n v) (ho : Outer w ⟨bL, oL, none⟩ n v) (hf : Far ⟨bL, oL, none⟩ n v) (hn : n ≤ 1000000) (hlen : ∀ k, k < n → len k ≤ 1099511627776) (hB : B ≤ w.heap.size) :
    Calls Tryz.prog 25 #[.slice (some ⟨bL, oL, none⟩) n cL] w fun e w' => e = .returned (.bool true) ∧ Below B w w' := by
  obtain ⟨infoX, hiX, hz0X, hz1X, hz2X⟩ := info_parts infoRowRunes
  have HM := Lib.hid hM
  have HD := Lib.hid hd
  have HF := Lib.hid hf
  have HL := Lib.hid hlen
  have HS : Hid (First w B 21 n 0 (fun a b => Value.int .i32 (mk a b)) v len ⟨bL, oL, none⟩ 0 w) := Lib.hid ⟨ys, hr, fun _ h => absurd h (Nat.not_lt_zero _), fun _ h => absurd h (Nat.not_lt_zero _), ho, Below.refl _ _⟩
  clear hM hd hf hlen hr ho
  go_enter Tryz.func25, Tryz.ntmps25
  go_wp2
  go_loopw [3] (fun s3 wr => ∃ K : Nat, K ≤ n ∧ s3 = .int .i64 K ∧ Hid (First w B 21 n K (fun a b => Value.int .i32 (mk a b)) v len ⟨bL, oL, none⟩ 0 wr)) (fun s3 _ => n - (intOf s3).toNat)
  case atStart => exact ⟨0, Nat.zero_le _, rfl, HS⟩
  case round =>
    clear HS
    obtain ⟨K, hK, rfl, HR⟩ := hrel
    by_cases hKn : K < n
    · obtain ⟨A, c, hvK, hcell⟩ : ∃ A c, Hid (v K = .slice A (len K) c) ∧ wr.cell? ⟨bL, oL + K, none⟩ = some (.slice A (len K) c) := by
        obtain ⟨zs, h1, _, _, h4, _⟩ := HR.out
        obtain ⟨A, c, e⟩ := own_slice (h1 K hKn)
        exact ⟨A, c, Lib.hid e, by rw [← e, ← h4 K hKn, Addr.add_lit]⟩
      have hlK : len K ≤ 1099511627776 := HL.out K hKn
      have hKi : (K : Int) < (n : Int) := by omega
      have hK0 : (0 : Int) ≤ (K : Int) := by omega
      go_wp2
      obtain ⟨wo, rfl⟩ : ∃ wo : World, wo = wr := ⟨_, rfl⟩
      clear hcell
      go_loopw [4] (fun s4 wr2 => ∃ I : Nat, I ≤ len K ∧ s4 = .int .i64 I ∧ Hid (First w B 21 n K (fun a b => Value.int .i32 (mk a b)) v len ⟨bL, oL, none⟩ I wr2)) (fun s4 _ => len K - (intOf s4).toNat)
      case atStart => exact ⟨0, Nat.zero_le _, rfl, HR⟩
      case round =>
        clear HR
        obtain ⟨I, hI, rfl, HR⟩ := hrel
        have hcell : wr.cell? ⟨bL, oL + K, none⟩ = some (.slice A (len K) c) := by
          obtain ⟨zs, h1, _, _, h4, _⟩ := HR.out
          rw [← hvK.out, ← h4 K hKn, Addr.add_lit]
        by_cases hIl : I < len K
        · obtain ⟨g, rfl, old, hc2, hf2, ltg, ltb⟩ : ∃ g, A = some ⟨g, 0, none⟩ ∧ ∃ old, wr.cell? ⟨g, I, none⟩ = some old ∧ wr.frozen? ⟨g, I, none⟩ = false ∧ g < wr.heap.size ∧ bL < wr.heap.size := by
            obtain ⟨zs, h1, _, _, h4, _⟩ := HR.out
            have hrow := h1 K hKn
            obtain ⟨g, c', e, _, hgl, _, _⟩ := own_some hrow (by omega)
            have hv := hvK.out
            rw [e] at hv
            injection hv with hA _ hc
            subst hA
            subst hc
            rw [e] at hrow
            have hl := hrow.1
            refine ⟨g, rfl, (zs K)[I]'(by omega), ?_, hrow.frozenAt I, hgl, h4.lt (by omega)⟩
            rw [hrow.cellAt I (by omega), List.getElem?_eq_getElem]
          have hIi : (I : Int) < (len K : Int) := by omega
          have hI0 : (0 : Int) ≤ (I : Int) := by omega
          go_wp2
          have hgb : g ≠ bL := fun e => HF.out K hKn (by rw [hvK.out, e]; rfl)
          go_region_held3 (fun w' => w'.cell? ⟨bL, oL + K, none⟩ = some (.slice (some ⟨g, 0, none⟩) (len K) c))
            (first | go_keep | (exact (hb.cell (p := ⟨bL, oL + K, none⟩) (by simpa using ltb)).trans (by simpa using hcell)) | (rw [World.cell?_setCell_far _ _ _ _ hgb]; assumption) | (rw [World.cell?_setCell_far _ _ _ _ hgb]; simp; assumption) | (rw [World.cell?_setCell_far _ _ _ _ hgb]; simp [*]))
            (first | (go_at_call 60; refine (HM.out _ _ _ (by omega) (by omega) (by omega) (by omega)).mono ?_; rintro e w1 ⟨rfl, hb⟩; have hx2 := (hb.cell (p := ⟨g, I, none⟩) (by simpa using ltg)).trans (by simpa using hc2); have hx3 := (hb.frozen (p := ⟨g, I, none⟩) (by simpa using ltg)).trans (by simpa using hf2)))
          go_wp2
          go_roundw
          case rel => exact ⟨I + 1, by omega, by go_num, Lib.hid (((HR.out.later hB ((Below.refl _ _).drew)).later hB hb).store HD.out HF.out hKn hvK.out hIl)⟩
          case measure => simp [intOf]; omega
        · have hIe : I = len K := by omega
          subst hIe
          go_wp2
          go_roundw
          case rel => exact ⟨K + 1, by omega, by go_num, Lib.hid (HR.out.next hKn)⟩
          case measure => simp [intOf]; omega
    · have hKe : K = n := by omega
      subst hKe
      have HR2 := Lib.hid (Second.start HR.out HD.out HF.out 22)
      clear HR
      go_wp2
      go_loopw [5, 6] (fun s5 s6 wr => ∃ (M : Nat) (Ag : Option Addr) (cg : Nat), M ≤ K ∧ s6 = .int .i64 M ∧ s5 = .slice Ag M cg ∧ Hid (Second w B 21 22 K M (fun a b => Value.int .i32 (mk a b)) v len ⟨bL, oL, none⟩ (.slice Ag M cg) 0 (v M) wr)) (fun _ s6 _ => K - (intOf s6).toNat)
      case atStart => exact ⟨0, none, 0, Nat.zero_le _, rfl, rfl, HR2⟩
      case round =>
        clear HR2
        obtain ⟨M, Ag, cg, hM, rfl, rfl, HR⟩ := hrel
        by_cases hMn : M < K
        · obtain ⟨A, c, hvM, hcell⟩ : ∃ A c, Hid (v M = .slice A (len M) c) ∧ wr.cell? ⟨bL, oL + M, none⟩ = some (.slice A (len M) c) := by
            obtain ⟨h', hl, G, _⟩ := HR.out
            obtain ⟨A, c, e⟩ := own_slice (G.old M hMn)
            exact ⟨A, c, Lib.hid e, by rw [← e, ← G.out M hMn, Addr.add_lit]⟩
          have hlM : len M ≤ 1099511627776 := HL.out M hMn
          have hMi : (M : Int) < (K : Int) := by omega
          have hM0 : (0 : Int) ≤ (M : Int) := by omega
          have HR1 : Hid (Second w B 21 22 K M (fun a b => Value.int .i32 (mk a b)) v len ⟨bL, oL, none⟩ (.slice Ag M cg) 0 (.slice A (len M) c) wr) := Lib.hid (by rw [← hvM.out]; exact HR.out)
          clear HR
          go_wp2
          obtain ⟨wo, rfl⟩ : ∃ wo : World, wo = wr := ⟨_, rfl⟩
          clear hcell
          go_loopw [7, 8] (fun s7 s8 wr2 => ∃ (I : Nat) (A7 : Option Addr) (c7 : Nat), I ≤ 64 ∧ s8 = .int .i64 I ∧ s7 = .slice A7 (len M + I) c7 ∧ Hid (Second w B 21 22 K M (fun a b => Value.int .i32 (mk a b)) v len ⟨bL, oL, none⟩ (.slice Ag M cg) I (.slice A7 (len M + I) c7) wr2)) (fun _ s8 _ => 64 - (intOf s8).toNat)
          case atStart => exact ⟨0, A, c, by omega, rfl, rfl, HR1⟩
          case round =>
            clear HR1
            obtain ⟨I, A7, c7, hI, rfl, rfl, HR⟩ := hrel
            have hcell : wr.cell? ⟨bL, oL + M, none⟩ = some (.slice A (len M) c) := by
              obtain ⟨h', hl, G, _⟩ := HR.out
              rw [← hvM.out, ← G.out M hMn, Addr.add_lit]
            by_cases hIl : I < 64
            · have hI0 : (0 : Int) ≤ (I : Int) := by omega
              have hIi : (I : Int) < 64 := by omega
              have hrow : Hid (wr.ownsRow B 21 1 (.slice A7 (len M + I) c7) (len M + I) (marks (fun a b => Value.int .i32 (mk a b)) M (len M + I))) := Lib.hid (by
                obtain ⟨h', hl, G, _, _, h4, _⟩ := HR.out
                obtain ⟨e1, e2⟩ := h4 hMn
                have := G.new M hMn
                simp only [e1, e2] at this
                exact this)
              have hBw : B ≤ wr.heap.size := by
                obtain ⟨_, _, _, _, _, _, h5⟩ := HR.out
                have := h5.size; omega
              go_wp2_with (first
                | (go_at_call 60; refine (HM.out _ _ _ (by omega) (by omega) (by omega) (by omega)).mono ?_; rintro e w1 ⟨rfl, hb⟩)
                | (at_builtin; refine wpList_append_split _ rfl (.tmp 50) (.tmp 60) 22 rfl B 21 (Value.int .i32 0) 1 4 Tryz.underlying22 infoRunes rfl (by decide) _ (len M + I) (marks (fun a b => Value.int .i32 (mk a b)) M (len M + I)) rfl ((own_later hrow.out hb).alloc _) ⟨w1.heap.size, 0, none⟩ 1 1 [Value.int .i32 (mk M (len M + I))] rfl rfl (cell_one_new _ _ _) (by simp [Value.oneCell']) (by decide) (by unfold maxLen; omega) (by omega) (by have := hb.size; simp; omega) ?_; intro v' w2 hown' hgrow hsp; obtain ⟨A8, c8, rfl⟩ := own_slice hown'))
              go_roundw
              case rel => exact ⟨I + 1, A8, c8, by omega, by go_num, rfl, Lib.hid (Second.append ((HR.out.later hB hb).later hB ((Below.refl _ _).alloc (Nat.le_refl _) _)) hMn (by decide) hown' hgrow hsp (by have := hb.size; simp; omega))⟩
              case measure => simp [intOf]; omega
            · have hIe : I = 64 := by omega
              subst hIe
              have hone : (Value.slice A7 (len M + 64) c7).oneCell' = true := rfl
              have hBw : B ≤ wr.heap.size := by
                obtain ⟨_, _, _, _, _, _, h5⟩ := HR.out
                have := h5.size; omega
              have hrow : Hid (∃ xs, wr.ownsRow B 22 1 (.slice Ag M cg) M xs) := Lib.hid (by
                obtain ⟨h', hl, G, _⟩ := HR.out
                exact ⟨_, G.row⟩)
              obtain ⟨xs, hxs⟩ := hrow.out
              have Hxs := Lib.hid hxs
              clear hxs
              go_wp2_with (at_builtin; refine wpList_append_own_at _ rfl (.tmp 62) (.tmp 64) 35 rfl B 22 infoX (.slice none 0 0) 1 24 Tryz.underlying35 hiX hz0X hz1X hz2X rfl (by decide) _ M xs rfl (Hxs.out.alloc _) ⟨wr.heap.size, 0, none⟩ 1 1 [.slice A7 (len M + 64) c7] rfl rfl (cell_one_new _ _ _) (by simp [Value.oneCell']) (by unfold maxLen; omega) (by omega) (by simp; omega) ?_; intro v' w2 hown' hgrow _ hsp; obtain ⟨A8, c8, rfl⟩ := own_slice hown')
              go_roundw
              case rel => exact ⟨M + 1, A8, c8, by omega, by go_num, rfl, Lib.hid (Second.put (HR.out.later hB ((Below.refl _ _).alloc (Nat.le_refl _) _)) hMn (by decide) (Hxs.out.alloc _) hown' hgrow hsp (by simp; omega))⟩
              case measure => simp [intOf]; omega
        · have hMe : M = K := by omega
          subst hMe
          have HT : Hid (Third w B 21 22 M (fun a b => Value.int .i32 (mk a b)) v len ⟨bL, oL, none⟩ (.slice Ag M cg) wr) := Lib.hid (Second.done HR.out)
          clear HR
          go_wp2
          go_loopw [9] (fun s9 wr => ∃ J : Nat, J ≤ M ∧ s9 = .int .i64 J ∧ Hid (Third w B 21 22 M (fun a b => Value.int .i32 (mk a b)) v len ⟨bL, oL, none⟩ (.slice Ag M cg) wr)) (fun s9 _ => M - (intOf s9).toNat)
          case atStart => exact ⟨0, Nat.zero_le _, rfl, HT⟩
          case round =>
            clear HT
            obtain ⟨J, hJ, rfl, HT⟩ := hrel
            by_cases hJn : J < M
            · obtain ⟨bg, cg', Ah, ch, eg, hgc, Hgc⟩ : ∃ bg cg' Ah ch, Ag = some ⟨bg, 0, none⟩ ∧ wr.cell? ⟨bg, J, none⟩ = some (.slice Ah (len J + 64) ch) ∧ cg' = cg := by
                obtain ⟨bg, cg', Ah, ch, e1, e2, _⟩ := HT.out.newCell hJn
                injection e1 with e3 _ e4
                exact ⟨bg, cg, Ah, ch, e3, e2, rfl⟩
              clear Hgc cg'
              subst eg
              have hlJ : len J ≤ 1099511627776 := HL.out J hJn
              have hJi : (J : Int) < (M : Int) := by omega
              have hJ0 : (0 : Int) ≤ (J : Int) := by omega
              go_wp2
              obtain ⟨wo, rfl⟩ : ∃ wo : World, wo = wr := ⟨_, rfl⟩
              clear hgc
              go_loopw [10] (fun s10 wr => ∃ I : Nat, I ≤ len J + 64 ∧ s10 = .int .i64 I ∧ Hid (Third w B 21 22 M (fun a b => Value.int .i32 (mk a b)) v len ⟨bL, oL, none⟩ (.slice (some ⟨bg, 0, none⟩) M cg) wr)) (fun s10 _ => len J + 64 - (intOf s10).toNat)
              case atStart => exact ⟨0, by omega, rfl, HT⟩
              case round =>
                clear HT
                obtain ⟨I, hI, rfl, HT⟩ := hrel
                obtain ⟨bg', cg', Ah, ch, e1, hgc, hcells⟩ := HT.out.newCell hJn
                injection e1 with e3 _ e4
                injection e3 with e3
                injection e3 with e3
                subst e3
                clear e4
                by_cases hIl : I < len J + 64
                · obtain ⟨gh, rfl, hch⟩ := hcells I hIl
                  clear hcells
                  obtain ⟨A, c, hvJ, hcell, hold⟩ := HT.out.oldCell hJn
                  have Hold := Lib.hid hold
                  clear hold hvJ
                  have hI0 : (0 : Int) ≤ (I : Int) := by omega
                  have hIi : (I : Int) < (len J : Int) + 64 := by omega
                  have l1 := World.block_lt_of_cell? wr _ hgc
                  have l2 := World.block_lt_of_cell? wr _ hch
                  have l3 := World.block_lt_of_cell? wr _ hcell
                  by_cases hIo : I < len J
                  · obtain ⟨go, rfl, hco⟩ := Hold.out I hIo
                    have hIo' : (I : Int) < (len J : Int) := by omega
                    have l4 := World.block_lt_of_cell? wr _ hco
                    go_wp2_with (go_at_call 60; refine (HM.out _ _ _ (by omega) (by omega) (by omega) (by omega)).mono ?_; rintro e w1 ⟨rfl, hb⟩; have k1 := (hb.cell (p := ⟨bg, J, none⟩) l1).trans hgc; have k2 := (hb.cell (p := ⟨gh, I, none⟩) l2).trans hch; have k3 := (hb.cell (p := ⟨bL, oL + J, none⟩) l3).trans hcell; have k4 := (hb.cell (p := ⟨go, I, none⟩) l4).trans hco)
                    go_roundw
                    case rel => exact ⟨I + 1, by omega, by go_num, Lib.hid (HT.out.later hB hb)⟩
                    case measure => simp [intOf]; omega
                  · have hIo' : decide ((I : Int) < (len J : Int)) = false := decide_eq_false (by omega)
                    have hIo2 : (len J : Int) ≤ (I : Int) := by omega
                    go_wp2_with (go_at_call 60; refine (HM.out _ _ _ (by omega) (by omega) (by omega) (by omega)).mono ?_; rintro e w1 ⟨rfl, hb⟩; have k1 := (hb.cell (p := ⟨bg, J, none⟩) l1).trans hgc; have k2 := (hb.cell (p := ⟨gh, I, none⟩) l2).trans hch; have k3 := (hb.cell (p := ⟨bL, oL + J, none⟩) l3).trans hcell)
                    go_roundw
                    case rel => exact ⟨I + 1, by omega, by go_num, Lib.hid (HT.out.later hB hb)⟩
                    case measure => simp [intOf]; omega
                · have hIe : I = len J + 64 := by omega
                  subst hIe
                  clear hcells
                  go_wp2
                  go_roundw
                  case rel => exact ⟨J + 1, by omega, by go_num, HT⟩
                  case measure => simp [intOf]; omega
            · have hJe : J = M := by omega
              subst hJe
              go_wp2
              go_ret
              obtain ⟨_, _, _, _, h5⟩ := HT.out
              exact ⟨rfl, h5⟩
end Go.Proofs.YtikpkjpnehkbfaaGreatDoor.Rowl
