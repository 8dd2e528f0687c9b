/- Lists that were handed out, written over and grown beside each other: what is known of all of them while one is written or grown. Plain laws of memory, over any program. -/
import Derived.Test.YthonikkoafoohaaGreatDoorRowLaws
namespace Go.Proofs.YthonikkoafoohaaGreatDoor.Rowl
open Go Go.RowKit

/-- The first n marks of list k. -/
def marks (mk : Nat → Nat → Value) (k n : Nat) : List Value := (List.range n).map (mk k)
theorem marks_length (mk : Nat → Nat → Value) (k n : Nat) : (marks mk k n).length = n := by simp [marks]
theorem marks_succ (mk : Nat → Nat → Value) (k n : Nat) : marks mk k (n + 1) = marks mk k n ++ [mk k n] := by simp [marks, List.range_succ]
theorem marks_take (mk : Nat → Nat → Value) (k n m : Nat) (h : m ≤ n) : (marks mk k n).take m = marks mk k m := by
  unfold marks
  rw [← List.map_take, List.take_range, Nat.min_eq_left h]
theorem marks_get (mk : Nat → Nat → Value) (k n i : Nat) (h : i < n) : (marks mk k n)[i]? = some (mk k i) := by
  simp [marks, h]

/-- Rows of one-cell elements (type e) of one's own: value, length, cells, by their number. -/
def Rows (w : World) (B e n : Nat) (v : Nat → Value) (len : Nat → Nat) (ys : Nat → List Value) : Prop := ∀ k, k < n → w.ownsRow B e 1 (v k) (len k) (ys k)
/-- No two lead to one block. -/
def Dist (n : Nat) (v : Nat → Value) : Prop := ∀ j k, j < n → k < n → j ≠ k → ∀ b, (v j).ownBlock = some b → (v k).ownBlock ≠ some b
/-- The list of the lists: read only, in a block that is none of theirs. -/
def Outer (w : World) (L : Addr) (n : Nat) (v : Nat → Value) : Prop := ∀ k, k < n → w.cell? (L.add k) = some (v k)
def Far (L : Addr) (n : Nat) (v : Nat → Value) : Prop := ∀ k, k < n → (v k).ownBlock ≠ some L.block

theorem add_block (L : Addr) (k : Nat) : (L.add k).block = L.block := by unfold Addr.add; split <;> rfl
theorem Outer.move {w w' : World} {L : Addr} {n : Nat} {v : Nat → Value} (h : Outer w L n v) (hb : w'.heap[L.block]? = w.heap[L.block]?) : Outer w' L n v := fun k hk => by
  rw [← h k hk]
  exact World.cell?_of_block (by rw [add_block]; exact hb)
theorem Outer.lt {w : World} {L : Addr} {n : Nat} {v : Nat → Value} (h : Outer w L n v) (hn : 0 < n) : L.block < w.heap.size := by
  have := h 0 hn
  rcases Nat.lt_or_ge L.block w.heap.size with h | h
  · exact h
  · simp [World.cell?, Addr.add, Array.getElem?_eq_none h] at this
theorem Outer.later {w w' : World} {L : Addr} {n : Nat} {v : Nat → Value} (h : Outer w L n v) (hb : Below w.heap.size w w') : Outer w' L n v := fun k hk => by
  exact Outer.move (n := n) h (hb.block _ (h.lt (by omega))) k hk
theorem Rows.later {w w' : World} {B e n : Nat} {v : Nat → Value} {len : Nat → Nat} {ys : Nat → List Value} (h : Rows w B e n v len ys) (hb : Below w.heap.size w w') : Rows w' B e n v len ys := fun k hk => own_later (h k hk) hb

/-- A function with one value turned. -/
def upd {α : Type} (f : Nat → α) (K : Nat) (x : α) : Nat → α := fun k => if k = K then x else f k
theorem upd_same {α : Type} (f : Nat → α) (K : Nat) (x : α) : upd f K x K = x := by simp [upd]
theorem upd_other {α : Type} (f : Nat → α) {K k : Nat} (x : α) (h : k ≠ K) : upd f K x k = f k := by simp [upd, h]

/-- A store into element i of list K. -/
theorem store_rows {w : World} {B e n K i g c : Nat} {v : Nat → Value} {len : Nat → Nat} {ys : Nat → List Value} {L : Addr} (hr : Rows w B e n v len ys) (hd : Dist n v) (ho : Outer w L n v) (hf : Far L n v) (hK : K < n)
    (hv : v K = .slice (some ⟨g, 0, none⟩) (len K) c) (u : Value) :
    Rows (w.setCell ⟨g, i, none⟩ u) B e n v len (upd ys K ((ys K).set i u)) ∧ Outer (w.setCell ⟨g, i, none⟩ u) L n v := by
  have h := hr K hK
  rw [hv] at h
  obtain ⟨h1, h2⟩ := h.stored i u
  refine ⟨fun k hk => ?_, ho.move ?_⟩
  · by_cases e : k = K
    · subst e; rw [upd_same, hv]; exact h1
    · rw [upd_other _ _ e]
      refine (hr k hk).kept h2 ?_
      cases hb : (v k).ownBlock with
      | none => exact .inl rfl
      | some b =>
        right
        intro hg
        obtain rfl := Option.some.inj hg
        exact hd k K hk hK e b hb (by rw [hv]; rfl)
  · have hlt := ho.lt (by omega)
    refine h2.block _ hlt ?_
    intro e
    exact hf K hK (by rw [hv]; exact e.symm)

/-- Both of a group: the list itself and what it has grown to. -/
structure Grown (w : World) (B e n : Nat) (mk : Nat → Nat → Value) (v h : Nat → Value) (len hl : Nat → Nat) (L : Addr) (gs : Value) (K : Nat) (t : Nat) : Prop where
  old : Rows w B e n v len (fun k => marks mk k (len k))
  new : Rows w B e n h hl (fun k => marks mk k (hl k))
  le : ∀ k, k < n → len k ≤ hl k
  dist : ∀ j k, j < n → k < n → j ≠ k → ∀ b, ((v j).ownBlock = some b ∨ (h j).ownBlock = some b) → (v k).ownBlock ≠ some b ∧ (h k).ownBlock ≠ some b
  out : Outer w L n v
  far : ∀ k, k < n → (v k).ownBlock ≠ some L.block ∧ (h k).ownBlock ≠ some L.block
  row : w.ownsRow B t 1 gs K ((List.range K).map h)
  rowFar : gs.ownBlock ≠ some L.block
theorem Grown.start {w : World} {B e n : Nat} {mk : Nat → Nat → Value} {v : Nat → Value} {len : Nat → Nat} {L : Addr} (hr : Rows w B e n v len (fun k => marks mk k (len k))) (hd : Dist n v) (ho : Outer w L n v) (hf : Far L n v) (t : Nat) :
    Grown w B e n mk v v len len L (.slice none 0 0) 0 t where
  old := hr
  new := hr
  le := fun _ _ => Nat.le_refl _
  dist := fun j k hj hk hjk b hb => by
    have hb' : (v j).ownBlock = some b := by rcases hb with h | h <;> exact h
    exact ⟨hd j k hj hk hjk b hb', hd j k hj hk hjk b hb'⟩
  out := ho
  far := fun k hk => ⟨hf k hk, hf k hk⟩
  row := World.ownsRow_nil _ _ _ _
  rowFar := by simp [Value.ownBlock]
theorem Grown.later {w w' : World} {B e n : Nat} {mk : Nat → Nat → Value} {v h : Nat → Value} {len hl : Nat → Nat} {L : Addr} {gs : Value} {K t : Nat} (G : Grown w B e n mk v h len hl L gs K t) (hb : Below w.heap.size w w') : Grown w' B e n mk v h len hl L gs K t :=
  { G with old := G.old.later hb, new := G.new.later hb, out := G.out.later hb, row := own_later G.row hb }
/-- List K has grown by one. -/
theorem Grown.append {w w' : World} {B e n : Nat} {mk : Nat → Nat → Value} {v h : Nat → Value} {len hl : Nat → Nat} {L : Addr} {gs : Value} {K t : Nat} (G : Grown w B e n mk v h len hl L gs K t) (hK : K < n) (hte : e ≠ t) {v' : Value}
    (ho : w'.ownsRow B e 1 v' (hl K + 1) (marks mk K (hl K) ++ [mk K (hl K)])) (hg : w.grownBy w' (h K).ownBlock)
    (hs : (∃ g cap, h K = .slice (some ⟨g, 0, none⟩) (hl K) cap ∧ v' = .slice (some ⟨g, 0, none⟩) (hl K + 1) cap) ∨ (v'.ownBlock = some w.heap.size ∧ w.grownBy w' none)) :
    Grown w' B e n mk v (upd h K v') len (upd hl K (hl K + 1)) L gs K t := by
  have hLlt := G.out.lt (by omega)
  have blk : v'.ownBlock = (h K).ownBlock ∨ v'.ownBlock = some w.heap.size := by
    rcases hs with ⟨g, cap, e1, e2⟩ | ⟨e1, _⟩
    · left; rw [e1, e2]; rfl
    · exact .inr e1
  have keep : ∀ (u : Value) (m b q : Nat) (xs : List Value), w.ownsRow b q 1 u m xs → (∀ g, u.ownBlock = some g → (h K).ownBlock ≠ some g) → w'.ownsRow b q 1 u m xs := fun u m b q xs hu hne => hu.kept hg (by
    cases hb : u.ownBlock with
    | none => exact .inl rfl
    | some g => exact .inr (fun e => hne g hb e.symm))
  refine ⟨fun k hk => ?_, fun k hk => ?_, fun k hk => ?_, ?_, ?_, ?_, ?_, G.rowFar⟩
  · by_cases ek : k = K
    · subst ek
      rcases hs with ⟨g, cap, e1, e2⟩ | ⟨e1, hgn⟩
      · by_cases hbk : (v k).ownBlock = some g
        · have hv := G.old k hk
          obtain ⟨A, c, hvs⟩ := own_slice hv
          rw [hvs] at hbk hv ⊢
          cases A with
          | none => simp [Value.ownBlock] at hbk
          | some a =>
            simp only [Value.ownBlock, Option.some.injEq] at hbk
            have ha : a = ⟨g, 0, none⟩ := by
              rcases hv.2 with ⟨h2, _⟩ | ⟨g', cap', cur, h2, _⟩
              · simp at h2
              · simp only [Value.slice.injEq, Option.some.injEq, true_and] at h2
                obtain ⟨rfl, _⟩ := h2
                simp only at hbk
                rw [hbk]
            subst ha
            have hn := G.new k hk
            rw [e1] at hn
            obtain ⟨hc, _⟩ := same_block (by decide) hn hv (G.le k hk)
            subst hc
            rw [e2] at ho
            have := sub_row ho (Nat.le_succ_of_le (G.le k hk))
            rw [Nat.mul_one, ← marks_succ, marks_take _ _ _ _ (Nat.le_succ_of_le (G.le k hk))] at this
            exact this
        · exact keep _ _ _ _ _ (G.old k hk) (fun g' hg' e' => by
            rw [e1] at e'
            simp only [Value.ownBlock, Option.some.injEq] at e'
            subst e'
            exact hbk hg')
      · exact (G.old k hk).kept hgn (by
          cases hb : (v k).ownBlock with
          | none => exact .inl rfl
          | some g => exact .inr (by simp))
    · exact keep _ _ _ _ _ (G.old k hk) (fun g hg' => (G.dist k K hk hK ek g (.inl hg')).2)
  · by_cases ek : k = K
    · subst ek
      show w'.ownsRow B e 1 _ _ (marks mk k (upd hl k (hl k + 1) k))
      rw [upd_same, upd_same, marks_succ]; exact ho
    · show w'.ownsRow B e 1 _ _ (marks mk k (upd hl K (hl K + 1) k))
      rw [upd_other _ _ ek, upd_other _ _ ek]
      exact keep _ _ _ _ _ (G.new k hk) (fun g hg' => (G.dist k K hk hK ek g (.inr hg')).2)
  · by_cases ek : k = K
    · subst ek; rw [upd_same]; exact Nat.le_succ_of_le (G.le k hk)
    · rw [upd_other _ _ ek]; exact G.le k hk
  · intro j k hj hk hjk b hb
    have lt1 : ∀ m, m < n → (v m).ownBlock ≠ some w.heap.size := fun m hm e => by have := ((G.old m hm).lt _ e).2; omega
    have lt2 : ∀ m, m < n → (h m).ownBlock ≠ some w.heap.size := fun m hm e => by have := ((G.new m hm).lt _ e).2; omega
    by_cases ej : j = K
    · subst ej
      have ek : k ≠ j := fun e => hjk e.symm
      rw [upd_same] at hb
      rw [upd_other _ _ ek]
      rcases hb with hb | hb
      · exact G.dist j k hj hk hjk b (.inl hb)
      · rcases blk with e1 | e1
        · exact G.dist j k hj hk hjk b (.inr (e1.symm.trans hb))
        · rw [e1] at hb
          obtain rfl := Option.some.inj hb
          exact ⟨lt1 k hk, lt2 k hk⟩
    · rw [upd_other _ _ ej] at hb
      by_cases ek : k = K
      · subst ek
        rw [upd_same]
        have hd := G.dist j k hj hk hjk b hb
        refine ⟨hd.1, fun e2 => ?_⟩
        rcases blk with e1 | e1
        · exact hd.2 (e1.symm.trans e2)
        · rw [e1] at e2
          obtain rfl := Option.some.inj e2
          rcases hb with hb | hb
          · exact lt1 j hj hb
          · exact lt2 j hj hb
      · rw [upd_other _ _ ek]
        exact G.dist j k hj hk hjk b hb
  · exact G.out.move (hg.block _ hLlt (fun e => (G.far K hK).2 e.symm))
  · intro k hk
    refine ⟨(G.far k hk).1, ?_⟩
    by_cases ek : k = K
    · subst ek
      rw [upd_same]
      rcases blk with e1 | e1
      · rw [e1]; exact (G.far k hk).2
      · rw [e1]; intro e2; have := Option.some.inj e2; omega
    · rw [upd_other _ _ ek]; exact (G.far k hk).2
  · have e1 : (List.range K).map (upd h K v') = (List.range K).map h := List.map_congr_left fun k hk => upd_other _ _ (by have := List.mem_range.1 hk; omega)
    rw [e1]
    exact keep _ _ _ _ _ G.row (fun g hg' e' => by
      rcases other_type (G.new K hK) G.row hte with h0 | h0
      · rw [h0] at e'; cases e'
      · exact h0 (e'.trans hg'.symm))
/-- What list K has grown to is put behind the others. -/
theorem Grown.put {w w' : World} {B e n : Nat} {mk : Nat → Nat → Value} {v h : Nat → Value} {len hl : Nat → Nat} {L : Addr} {gs gs' : Value} {K t : Nat} (G : Grown w B e n mk v h len hl L gs K t) (hK : K < n) (hte : e ≠ t)
    (ho : w'.ownsRow B t 1 gs' (K + 1) ((List.range K).map h ++ [h K])) (hg : w.grownBy w' gs.ownBlock) (hs : gs'.ownBlock = gs.ownBlock ∨ gs'.ownBlock = some w.heap.size) :
    Grown w' B e n mk v h len hl L gs' (K + 1) t := by
  have hLlt := G.out.lt (by omega)
  have keep : ∀ (u : Value) (m : Nat) (xs : List Value), w.ownsRow B e 1 u m xs → w'.ownsRow B e 1 u m xs := fun u m xs hu => hu.kept hg (other_type hu G.row hte)
  refine ⟨fun k hk => keep _ _ _ (G.old k hk), fun k hk => keep _ _ _ (G.new k hk), G.le, G.dist, G.out.move (hg.block _ hLlt (fun e => G.rowFar e.symm)), G.far, ?_, ?_⟩
  · rw [List.range_succ, List.map_append]; exact ho
  · rcases hs with e1 | e1
    · rw [e1]; exact G.rowFar
    · rw [e1]; intro e2; have := Option.some.inj e2; omega

/-! ### what the three loops keep (mk: the marks as values) -/
def First (w : World) (B e n K : Nat) (mk : Nat → Nat → Value) (v : Nat → Value) (len : Nat → Nat) (L : Addr) (I : Nat) (wr : World) : Prop :=
  ∃ ys : Nat → List Value, Rows wr B e n v len ys ∧ (∀ j, j < K → ys j = marks mk j (len j)) ∧ (∀ i, i < I → (ys K)[i]? = some (mk K i)) ∧ Outer wr L n v ∧ Below B w wr
section
variable {w : World} {B e n K : Nat} {mk : Nat → Nat → Value} {v : Nat → Value} {len : Nat → Nat} {L : Addr} {I : Nat} {wr : World}
theorem First.later {w' : World} (h : First w B e n K mk v len L I wr) (hB : B ≤ w.heap.size) (hb : Below wr.heap.size wr w') : First w B e n K mk v len L I w' := by
  obtain ⟨ys, h1, h2, h3, h4, h5⟩ := h
  exact ⟨ys, h1.later hb, h2, h3, h4.later hb, h5.trans (hb.mono (Nat.le_trans hB h5.size))⟩
theorem First.next (h : First w B e n K mk v len L (len K) wr) (hK : K < n) : First w B e n (K + 1) mk v len L 0 wr := by
  obtain ⟨ys, h1, h2, h3, h4, h5⟩ := h
  refine ⟨ys, h1, fun j hj => ?_, fun _ h => absurd h (Nat.not_lt_zero _), h4, h5⟩
  by_cases e : j = K
  · subst e
    have hl := (h1 j hK).1
    rw [Nat.mul_one] at hl
    refine List.ext_getElem? fun i => ?_
    by_cases hi : i < len j
    · rw [h3 i hi, marks_get _ _ _ _ hi]
    · rw [List.getElem?_eq_none (by omega), List.getElem?_eq_none (by rw [marks_length]; omega)]
  · exact h2 j (by omega)
theorem First.store {g c : Nat} (h : First w B e n K mk v len L I wr) (hd : Dist n v) (hf : Far L n v) (hK : K < n) (hv : v K = .slice (some ⟨g, 0, none⟩) (len K) c) (hI : I < len K) : First w B e n K mk v len L (I + 1) (wr.setCell ⟨g, I, none⟩ (mk K I)) := by
  obtain ⟨ys, h1, h2, h3, h4, h5⟩ := h
  have hl := (h1 K hK).1
  rw [Nat.mul_one] at hl
  obtain ⟨a1, a2⟩ := store_rows (i := I) h1 hd h4 hf hK hv (mk K I)
  have hg := (h1 K hK).lt g (by rw [hv]; rfl)
  refine ⟨_, a1, fun j hj => by rw [upd_other _ _ (by omega)]; exact h2 j hj, fun i hi => ?_, a2, h5.setCell (p := ⟨g, I, none⟩) hg.1 _⟩
  rw [upd_same]
  by_cases e : i = I
  · subst e; rw [List.getElem?_set_self (by omega)]
  · rw [List.getElem?_set_ne (by omega)]; exact h3 i (by omega)
end
def Second (w : World) (B e t n K : Nat) (mk : Nat → Nat → Value) (v : Nat → Value) (len : Nat → Nat) (L : Addr) (gs : Value) (I : Nat) (g7 : Value) (wr : World) : Prop :=
  ∃ h hl, Grown wr B e n mk v h len hl L gs K t ∧ (∀ k, k < K → hl k = len k + 64) ∧ (∀ k, K < k → k < n → h k = v k ∧ hl k = len k) ∧ (K < n → h K = g7 ∧ hl K = len K + I) ∧ Below B w wr
section
variable {w : World} {B e t n K : Nat} {mk : Nat → Nat → Value} {v : Nat → Value} {len : Nat → Nat} {L : Addr} {gs : Value} {I : Nat} {g7 : Value} {wr : World}
theorem Second.later {w' : World} (h : Second w B e t n K mk v len L gs I g7 wr) (hB : B ≤ w.heap.size) (hb : Below wr.heap.size wr w') : Second w B e t n K mk v len L gs I g7 w' := by
  obtain ⟨h', hl, h1, h2, h3, h4, h5⟩ := h
  exact ⟨h', hl, h1.later hb, h2, h3, h4, h5.trans (hb.mono (Nat.le_trans hB h5.size))⟩
theorem Second.start (h : First w B e n n mk v len L 0 wr) (hd : Dist n v) (hf : Far L n v) (t : Nat) : Second w B e t n 0 mk v len L (.slice none 0 0) 0 (v 0) wr := by
  obtain ⟨ys, h1, h2, h3, h4, h5⟩ := h
  refine ⟨v, len, Grown.start (fun k hk => ?_) hd h4 hf t, fun _ h => absurd h (Nat.not_lt_zero _), fun _ _ _ => ⟨rfl, rfl⟩, fun _ => ⟨rfl, by omega⟩, h5⟩
  have := h1 k hk
  rw [h2 k hk] at this
  exact this
theorem Second.append {w' : World} {v' : Value} (h : Second w B e t n K mk v len L gs I g7 wr) (hK : K < n) (hte : e ≠ t)
    (ho : w'.ownsRow B e 1 v' (len K + I + 1) (marks mk K (len K + I) ++ [mk K (len K + I)])) (hg : wr.grownBy w' g7.ownBlock)
    (hs : (∃ g cap, g7 = .slice (some ⟨g, 0, none⟩) (len K + I) cap ∧ v' = .slice (some ⟨g, 0, none⟩) (len K + I + 1) cap) ∨ (v'.ownBlock = some wr.heap.size ∧ wr.grownBy w' none)) (hbl : B ≤ wr.heap.size) :
    Second w B e t n K mk v len L gs (I + 1) v' w' := by
  obtain ⟨h', hl, h1, h2, h3, h4, h5⟩ := h
  obtain ⟨e1, e2⟩ := h4 hK
  have hlt := (h1.new K hK).lt
  rw [e1] at hlt
  refine ⟨upd h' K v', upd hl K (hl K + 1), h1.append hK hte (by rw [e2]; exact ho) (by rw [e1]; exact hg) (by rw [e1, e2]; exact hs), fun k hk => by rw [upd_other _ _ (by omega)]; exact h2 k hk, fun k hk hk2 => ?_, fun _ => ?_, h5.grown hg hbl (fun k hk => (hlt k hk).1)⟩
  · rw [upd_other _ _ (by omega), upd_other _ _ (by omega)]; exact h3 k hk hk2
  · rw [upd_same, upd_same, e2]; exact ⟨rfl, by omega⟩
theorem Second.put {w' : World} {gs' : Value} {xs : List Value} (h : Second w B e t n K mk v len L gs 64 g7 wr) (hK : K < n) (hte : e ≠ t) (hx : wr.ownsRow B t 1 gs K xs)
    (ho : w'.ownsRow B t 1 gs' (K + 1) (xs ++ [g7])) (hg : wr.grownBy w' gs.ownBlock) (hs : gs'.ownBlock = gs.ownBlock ∨ gs'.ownBlock = some wr.heap.size) (hbl : B ≤ wr.heap.size) :
    Second w B e t n (K + 1) mk v len L gs' 0 (v (K + 1)) w' := by
  obtain ⟨h', hl, h1, h2, h3, h4, h5⟩ := h
  obtain ⟨e1, e2⟩ := h4 hK
  have hlt := h1.row.lt
  rw [own_unique hx h1.row] at ho
  refine ⟨h', hl, h1.put hK hte (by rw [e1]; exact ho) hg hs, fun k hk => ?_, fun k hk hk2 => h3 k (by omega) hk2, fun hk => ?_, h5.grown hg hbl (fun k hk => (hlt k hk).1)⟩
  · by_cases ek : k = K
    · subst ek; exact e2
    · exact h2 k (by omega)
  · have := h3 (K + 1) (by omega) hk
    exact ⟨this.1, by omega⟩
end
/-- What the last loop reads. -/
def Third (w : World) (B e t n : Nat) (mk : Nat → Nat → Value) (v : Nat → Value) (len : Nat → Nat) (L : Addr) (gs : Value) (wr : World) : Prop :=
  ∃ h hl, Grown wr B e n mk v h len hl L gs n t ∧ (∀ k, k < n → hl k = len k + 64) ∧ Below B w wr
theorem Second.done {w : World} {B e t n : Nat} {mk : Nat → Nat → Value} {v : Nat → Value} {len : Nat → Nat} {L : Addr} {gs g7 : Value} {I : Nat} {wr : World} (h : Second w B e t n n mk v len L gs I g7 wr) : Third w B e t n mk v len L gs wr := by
  obtain ⟨h', hl, h1, h2, _, _, h5⟩ := h
  exact ⟨h', hl, h1, h2, h5⟩
theorem Third.later {w : World} {B e t n : Nat} {mk : Nat → Nat → Value} {v : Nat → Value} {len : Nat → Nat} {L : Addr} {gs : Value} {wr w' : World} (h : Third w B e t n mk v len L gs wr) (hB : B ≤ w.heap.size) (hb : Below wr.heap.size wr w') : Third w B e t n mk v len L gs w' := by
  obtain ⟨h', hl, h1, h2, h5⟩ := h
  exact ⟨h', hl, h1.later hb, h2, h5.trans (hb.mono (Nat.le_trans hB h5.size))⟩
/-- A cell of list M as it was handed out. -/
theorem Third.oldCell {w : World} {B e t n : Nat} {mk : Nat → Nat → Value} {v : Nat → Value} {len : Nat → Nat} {bL oL : Nat} {gs : Value} {wr : World} (h : Third w B e t n mk v len ⟨bL, oL, none⟩ gs wr) {M : Nat} (hM : M < n) :
    ∃ A c, v M = .slice A (len M) c ∧ wr.cell? ⟨bL, oL + M, none⟩ = some (.slice A (len M) c) ∧ ∀ I, I < len M → ∃ g, A = some ⟨g, 0, none⟩ ∧ wr.cell? ⟨g, I, none⟩ = some (mk M I) := by
  obtain ⟨h', hl, G, _⟩ := h
  have hr := G.old M hM
  obtain ⟨A, c, ev⟩ := own_slice hr
  refine ⟨A, c, ev, by rw [← ev, ← G.out M hM, Addr.add_lit], fun I hI => ?_⟩
  obtain ⟨g, c', e, _⟩ := own_some hr (by omega)
  rw [ev] at e
  injection e with e1 _ e3
  subst e1
  subst e3
  rw [ev] at hr
  exact ⟨g, rfl, by rw [hr.cellAt I (by omega), marks_get _ _ _ _ hI]⟩
/-- .. and as it has grown. -/
theorem Third.newCell {w : World} {B e t n : Nat} {mk : Nat → Nat → Value} {v : Nat → Value} {len : Nat → Nat} {L : Addr} {gs : Value} {wr : World} (h : Third w B e t n mk v len L gs wr) {M : Nat} (hM : M < n) :
    ∃ bg cg A c, gs = .slice (some ⟨bg, 0, none⟩) n cg ∧ wr.cell? ⟨bg, M, none⟩ = some (.slice A (len M + 64) c) ∧ ∀ I, I < len M + 64 → ∃ g, A = some ⟨g, 0, none⟩ ∧ wr.cell? ⟨g, I, none⟩ = some (mk M I) := by
  obtain ⟨h', hl, G, e2, _⟩ := h
  obtain ⟨bg, cg, eg, _⟩ := own_some G.row (by omega)
  have hr := G.new M hM
  simp only [e2 M hM] at hr
  obtain ⟨A, c, ev⟩ := own_slice hr
  have hrow := G.row
  rw [eg] at hrow
  refine ⟨bg, cg, A, c, eg, ?_, fun I hI => ?_⟩
  · rw [hrow.cellAt M (by omega), ← ev]
    simp [hM]
  · obtain ⟨g, c', e, _⟩ := own_some hr (by omega)
    rw [ev] at e
    injection e with e1 _ e3
    subst e1
    subst e3
    rw [ev] at hr
    exact ⟨g, rfl, by rw [hr.cellAt I (by omega), marks_get _ _ _ _ hI]⟩
end Go.Proofs.YthonikkoafoohaaGreatDoor.Rowl
