/- The order of marks, and what is composed: plain. -/
import Derived.Test.YtikpkjpnehkbfaaGreatDoorNormPlain
namespace Go.Proofs.YtikpkjpnehkbfaaGreatDoor.Nm
set_option linter.unusedVariables false
set_option linter.unusedSimpArgs false
open Go.Proofs.YtikpkjpnehkbfaaGreatDoor.Sp

section
variable {α : Type}
/-! ### rows whose classes never fall but to nought -/
def Ord (c : α → Int) (l : List α) : Prop := ∀ i x y, l[i]? = some x → l[i + 1]? = some y → 0 < c y → c x ≤ c y
def P0 (c : α → Int) (k : Int) (x : α) : Bool := c x == 0 || c x == k
theorem P0_iff {c : α → Int} {k : Int} {x : α} : P0 c k x = true ↔ c x = 0 ∨ c x = k := by unfold P0; simp
theorem Ord.nil (c : α → Int) : Ord c [] := fun i x y h => by simp at h
theorem Ord.one (c : α → Int) (x : α) : Ord c [x] := fun i x y _ h => by simp at h
theorem Ord.tail {c : α → Int} {x : α} {t : List α} (h : Ord c (x :: t)) : Ord c t := fun i a b ha hb => h (i + 1) a b (by simpa using ha) (by simpa using hb)
theorem Ord.head {c : α → Int} {x y : α} {t : List α} (h : Ord c (x :: y :: t)) : 0 < c y → c x ≤ c y := h 0 x y rfl rfl
theorem Ord.append {c : α → Int} {l m : List α} (h1 : Ord c l) (h2 : Ord c m) (hc : ∀ x y, l.getLast? = some x → m.head? = some y → 0 < c y → c x ≤ c y) : Ord c (l ++ m) := fun i x y hx hy h0 => by
  by_cases h : i + 1 < l.length
  · rw [List.getElem?_append_left (by omega)] at hx
    rw [List.getElem?_append_left h] at hy
    exact h1 i x y hx hy h0
  · by_cases h' : i + 1 = l.length
    · rw [List.getElem?_append_left (by omega)] at hx
      rw [List.getElem?_append_right (by omega), h', Nat.sub_self] at hy
      refine hc x y ?_ ?_ h0
      · rw [List.getLast?_eq_getElem?, show l.length - 1 = i by omega]; exact hx
      · rw [List.head?_eq_getElem?]; exact hy
    · rw [List.getElem?_append_right (by omega)] at hx
      rw [List.getElem?_append_right (by omega), show i + 1 - l.length = i - l.length + 1 by omega] at hy
      exact h2 _ x y hx hy h0
theorem Ord.left {c : α → Int} {l m : List α} (h : Ord c (l ++ m)) : Ord c l := fun i x y hx hy h0 => by
  have := (List.getElem?_eq_some_iff.1 hy).1
  exact h i x y (by rw [List.getElem?_append_left (by omega)]; exact hx) (by rw [List.getElem?_append_left (by omega)]; exact hy) h0
theorem Ord.right {c : α → Int} {l m : List α} (h : Ord c (l ++ m)) : Ord c m := fun i x y hx hy h0 =>
  h (l.length + i) x y (by rw [List.getElem?_append_right (by omega), Nat.add_sub_cancel_left]; exact hx) (by rw [List.getElem?_append_right (by omega), show l.length + i + 1 - l.length = i + 1 by omega]; exact hy) h0
theorem ord_first {c : α → Int} (hc : ∀ x, 0 ≤ c x) {k : Int} {x : α} (hk : 0 < k) (hx : c x = k) : ∀ (t : List α) (y : α) (r : List α), Ord c (y :: t) → (y :: t).filter (P0 c k) = x :: r → 0 < c y ∧ c y ≤ k
  | t, y, r, ho, hf => by
    rw [List.filter_cons] at hf
    by_cases hp : P0 c k y = true
    · rw [if_pos hp] at hf
      injection hf with hf _
      subst hf
      omega
    · rw [if_neg hp] at hf
      have hn : ¬ (c y = 0 ∨ c y = k) := fun h => hp (P0_iff.2 h)
      have h0 := hc y
      cases t with
      | nil => cases hf
      | cons z t =>
        have ih := ord_first hc hk hx t z r ho.tail hf
        have := ho.head ih.1
        omega
theorem filter_head {c : α → Int} {k : Int} {x : α} {t : List α} (h : P0 c k x = true) : (x :: t).filter (P0 c k) = x :: t.filter (P0 c k) := by rw [List.filter_cons, if_pos h]
/-- A row in order is told by what it holds of each class, among the points of class nought. -/
theorem ord_uniq {c : α → Int} (hc : ∀ x, 0 ≤ c x) : ∀ {u v : List α}, Ord c u → Ord c v → (∀ k, u.filter (P0 c k) = v.filter (P0 c k)) → u = v
  | [], [], _, _, _ => rfl
  | [], y :: v, _, _, h => by
    have := h (c y)
    rw [filter_head (P0_iff.2 (.inr rfl))] at this
    cases this
  | x :: u, [], _, _, h => by
    have := h (c x)
    rw [filter_head (P0_iff.2 (.inr rfl))] at this
    cases this
  | x :: u, y :: v, hu, hv, h => by
    have hxy : x = y := by
      by_cases hx : c x = 0
      · have := h (c y)
        rw [filter_head (P0_iff.2 (.inl hx)), filter_head (P0_iff.2 (.inr rfl))] at this
        injection this
      · by_cases hy : c y = 0
        · have := h (c x)
          rw [filter_head (P0_iff.2 (.inr rfl)), filter_head (P0_iff.2 (.inl hy))] at this
          injection this
        · have h1 := hc x
          have h2 := hc y
          have k1 := h (c x)
          rw [filter_head (P0_iff.2 (.inr rfl))] at k1
          have k2 := h (c y)
          rw [filter_head (t := v) (P0_iff.2 (.inr rfl))] at k2
          have l1 := ord_first hc (by omega) rfl v y _ hv k1.symm
          have l2 := ord_first hc (by omega) rfl u x _ hu k2
          have e : c x = c y := by omega
          rw [filter_head (P0_iff.2 (.inr e.symm))] at k1
          injection k1
    subst hxy
    rw [ord_uniq hc hu.tail hv.tail (fun k => by
      have := h k
      rw [List.filter_cons, List.filter_cons] at this
      split at this
      · injection this
      · exact this)]

/-! ### a row put in order -/
def ins (c : α → Int) (x : α) : List α → List α
  | [] => [x]
  | y :: t => if 0 < c x ∧ c x < c y then y :: ins c x t else x :: y :: t
def ordR (c : α → Int) (l : List α) : List α := (l.foldl (fun r x => ins c x r) []).reverse
theorem ins_filter (c : α → Int) (k : Int) (x : α) : ∀ r, (ins c x r).filter (P0 c k) = [x].filter (P0 c k) ++ r.filter (P0 c k)
  | [] => by simp [ins]
  | y :: t => by
    unfold ins
    by_cases h : 0 < c x ∧ c x < c y
    · rw [if_pos h, List.filter_cons, ins_filter c k x t]
      by_cases hy : P0 c k y = true
      · have hx : ¬ P0 c k x = true := fun hx => by
          rw [P0_iff] at hx hy
          omega
        simp [List.filter_cons, hx, hy]
      · simp [List.filter_cons, hy]
    · rw [if_neg h, show x :: y :: t = [x] ++ (y :: t) from rfl, List.filter_append]
theorem ins_ord (c : α → Int) (x : α) : ∀ r, Ord c r.reverse → Ord c (ins c x r).reverse ∧ ∀ z, (ins c x r).head? = some z → z = x ∨ r.head? = some z
  | [], _ => ⟨Ord.one c x, fun z h => by simp [ins] at h; exact .inl h.symm⟩
  | y :: t, h => by
    unfold ins
    by_cases hxy : 0 < c x ∧ c x < c y
    · rw [if_pos hxy, List.reverse_cons]
      rw [List.reverse_cons] at h
      obtain ⟨h1, h2⟩ := ins_ord c x t h.left
      refine ⟨h1.append (Ord.one c y) (fun u v hu hv h0 => ?_), fun z hz => by simp at hz ⊢; exact .inr hz⟩
      rw [List.getLast?_reverse] at hu
      simp only [List.head?_cons, Option.some.injEq] at hv
      subst hv
      rcases h2 u hu with rfl | hu
      · omega
      · cases t with
        | nil => cases hu
        | cons w t =>
          simp only [List.head?_cons, Option.some.injEq] at hu
          subst hu
          rw [List.reverse_cons, List.append_assoc] at h
          exact h.right.head h0
    · rw [if_neg hxy, List.reverse_cons]
      refine ⟨h.append (Ord.one c x) (fun u v hu hv h0 => ?_), fun z hz => by simp at hz; exact .inl hz.symm⟩
      rw [List.getLast?_reverse] at hu
      simp only [List.head?_cons, Option.some.injEq] at hu hv
      subst hu hv
      omega
theorem ordR_snoc (c : α → Int) (l : List α) (x : α) : ordR c (l ++ [x]) = (ins c x (ordR c l).reverse).reverse := by
  unfold ordR
  rw [List.foldl_append]
  simp
theorem ordR_ord (c : α → Int) (l : List α) : Ord c (ordR c l) := by
  have key : ∀ (l r : List α), Ord c r.reverse → Ord c (l.foldl (fun r x => ins c x r) r).reverse := by
    intro l
    induction l with
    | nil => intro r h; exact h
    | cons x l ih => intro r h; exact ih _ (ins_ord c x r h).1
  exact key l [] (Ord.nil c)
theorem ordR_filter (c : α → Int) (k : Int) (l : List α) : (ordR c l).filter (P0 c k) = l.filter (P0 c k) := by
  have key : ∀ (l r : List α), (l.foldl (fun r x => ins c x r) r).filter (P0 c k) = (l.filter (P0 c k)).reverse ++ r.filter (P0 c k) := by
    intro l
    induction l with
    | nil => intro r; simp
    | cons x l ih =>
      intro r
      rw [List.foldl_cons, ih, ins_filter, List.filter_cons]
      by_cases hx : P0 c k x = true
      · rw [if_pos hx]; simp [List.filter_cons, hx]
      · rw [if_neg hx]; simp [List.filter_cons, hx]
  unfold ordR
  rw [List.filter_reverse, key]
  simp
theorem ordR_uniq {c : α → Int} (hc : ∀ x, 0 ≤ c x) {l u : List α} (ho : Ord c u) (hf : ∀ k, u.filter (P0 c k) = l.filter (P0 c k)) : u = ordR c l :=
  ord_uniq hc ho (ordR_ord c l) (fun k => (hf k).trans (ordR_filter c k l).symm)
theorem filter_mem {c : α → Int} {u l : List α} (hf : ∀ k, u.filter (P0 c k) = l.filter (P0 c k)) {x : α} (h : x ∈ u) : x ∈ l := by
  have : x ∈ u.filter (P0 c (c x)) := List.mem_filter.2 ⟨h, P0_iff.2 (.inr rfl)⟩
  rw [hf] at this
  exact (List.mem_filter.1 this).1
theorem ordR_mem {c : α → Int} {l : List α} {x : α} : x ∈ ordR c l ↔ x ∈ l := ⟨filter_mem (fun k => ordR_filter c k l), filter_mem (fun k => (ordR_filter c k l).symm)⟩
theorem ins_length (c : α → Int) (x : α) : ∀ r, (ins c x r).length = r.length + 1
  | [] => rfl
  | y :: t => by
    unfold ins
    split
    · simp [ins_length c x t]
    · simp
theorem ordR_length (c : α → Int) (l : List α) : (ordR c l).length = l.length := by
  have key : ∀ (l r : List α), (l.foldl (fun r x => ins c x r) r).length = l.length + r.length := by
    intro l
    induction l with
    | nil => intro r; simp
    | cons x l ih => intro r; rw [List.foldl_cons, ih, ins_length]; simp; omega
  unfold ordR
  rw [List.length_reverse, key]
  simp

end
/-! ### decomposed -/
def flat (D : PD) (l : List Int) : List Int := l.flatMap (wholeOf D)
def decN (D : PD) (l : List Int) : List Int := ordR (classOf D) (flat D l)
theorem flat_append (D : PD) (l m : List Int) : flat D (l ++ m) = flat D l ++ flat D m := List.flatMap_append
theorem flat_cons (D : PD) (x : Int) (l : List Int) : flat D (x :: l) = wholeOf D x ++ flat D l := List.flatMap_cons
theorem flat_leaf {D : PD} : ∀ {l : List Int}, (∀ x ∈ l, decompOf D x = []) → flat D l = l
  | [], _ => rfl
  | x :: l, h => by
    rw [flat_cons, whole_leaf (h x (by simp)), flat_leaf (fun y hy => h y (by simp [hy]))]
    rfl
theorem Good.nn {D : PD} (h : Good D) : ∀ x, 0 ≤ classOf D x := fun x => (h.cls x).1
theorem dec_uniq {D : PD} (h : Good D) {l u : List Int} (ho : Ord (classOf D) u) (hf : ∀ k, u.filter (P0 (classOf D) k) = (flat D l).filter (P0 (classOf D) k)) : u = decN D l := ordR_uniq h.nn ho hf
theorem dec_ord (D : PD) (l : List Int) : Ord (classOf D) (decN D l) := ordR_ord _ _
theorem dec_filter (D : PD) (k : Int) (l : List Int) : (decN D l).filter (P0 (classOf D) k) = (flat D l).filter (P0 (classOf D) k) := ordR_filter _ _ _
theorem dec_mem {D : PD} {l : List Int} {x : Int} : x ∈ decN D l ↔ ∃ r ∈ l, x ∈ wholeOf D r := by
  unfold decN
  rw [ordR_mem]
  exact List.mem_flatMap
theorem dec_leaf {D : PD} (h : Good D) {l : List Int} {x : Int} (hx : x ∈ decN D l) : decompOf D x = [] := by
  obtain ⟨r, _, hr⟩ := dec_mem.1 hx
  exact h.leaf hr
theorem dec_flat {D : PD} (h : Good D) (l : List Int) : flat D (decN D l) = decN D l := flat_leaf (fun x hx => dec_leaf h hx)
theorem dec_dec {D : PD} (h : Good D) (l : List Int) : decN D (decN D l) = decN D l := (dec_uniq h (dec_ord D l) (fun k => by rw [dec_flat h])).symm
theorem flat_length {D : PD} (h : Good D) : ∀ l, l.length ≤ (flat D l).length ∧ (flat D l).length ≤ 8 * l.length
  | [] => by simp [flat]
  | x :: l => by
    have h1 := h.len x
    have h2 := flat_length h l
    rw [flat_cons, List.length_append, List.length_cons]
    omega
theorem dec_length {D : PD} (h : Good D) (l : List Int) : l.length ≤ (decN D l).length ∧ (decN D l).length ≤ 8 * l.length := by
  unfold decN
  rw [ordR_length]
  exact flat_length h l
theorem dec_nil (D : PD) : decN D [] = [] := rfl
/-- Two rows, the second of which begins with a point of class nought. -/
theorem dec_append {D : PD} (h : Good D) {l m : List Int} (hm : ∀ x, (flat D m).head? = some x → classOf D x = 0) : decN D (l ++ m) = decN D l ++ decN D m := by
  refine (dec_uniq h ((dec_ord D l).append (dec_ord D m) (fun x y hx hy h0 => ?_)) (fun k => by rw [flat_append, List.filter_append, List.filter_append, dec_filter, dec_filter])).symm
  exfalso
  -- the head of what is in order is that of what is not
  cases hd : decN D m with
  | nil => rw [hd] at hy; cases hy
  | cons z t =>
    rw [hd] at hy
    simp only [List.head?_cons, Option.some.injEq] at hy
    subst hy
    have hf := dec_filter D (classOf D z) m
    rw [hd, filter_head (P0_iff.2 (.inr rfl))] at hf
    cases hm' : flat D m with
    | nil => rw [hm'] at hf; cases hf
    | cons u v =>
      have hu := hm u (by rw [hm']; rfl)
      rw [hm', filter_head (P0_iff.2 (.inl hu))] at hf
      injection hf with hf _
      rw [hf, hu] at h0
      omega

/-! ### composed -/
def push (D : PD) (o : List Int × Option Nat) (c : Int) : List Int × Option Nat := (o.1 ++ [c], if classOf D c = 0 then some o.1.length else o.2)
def free (D : PD) (o : List Int) (s : Nat) (c : Int) : Prop := s + 1 = o.length ∨ classOf D (o.getD (o.length - 1) 0) < classOf D c
instance (D : PD) (o : List Int) (s : Nat) (c : Int) : Decidable (free D o s c) := by unfold free; infer_instance
def compStep (D : PD) (o : List Int × Option Nat) (c : Int) : List Int × Option Nat :=
  match o.2 with
  | none => push D o c
  | some s => if free D o.1 s c then (match composeOf D (o.1.getD s 0) c with | some r => (o.1.set s r, some s) | none => push D o c) else push D o c
def compF (D : PD) (d : List Int) : List Int := (d.foldl (compStep D) ([], none)).1
def compN (D : PD) (l : List Int) : List Int := compF D (decN D l)
theorem whole_compose {D : PD} (h : Good D) {a b r : Int} (hc : composeOf D a b = some r) (hb : decompOf D b = []) : wholeOf D r = wholeOf D a ++ [b] := by
  obtain ⟨st, rfl, hok⟩ := h.ok
  have hd := (compose_back hok hc).2
  have hne : decompOf st.d r ≠ [] := by rw [hd]; simp
  rw [h.step hne, hd, List.flatMap_append]
  congr 1
  · split
    · rename_i hs
      simp only [Bool.and_eq_true] at hs
      have : decompOf st.d a ≠ [] := by unfold decompOf; rw [if_pos hs.2]; unfold sylOf; simp
      rw [h.step this]
    · simp
  · simp [whole_leaf hb]
/-- What has been put together so far. -/
structure CI (D : PD) (p : List Int) (o : List Int × Option Nat) : Prop where
  same : ∀ k, (flat D o.1).filter (P0 (classOf D) k) = p.filter (P0 (classOf D) k)
  shape : ∀ s, o.2 = some s → ∃ A a B, o.1 = A ++ (a :: B) ∧ s = A.length ∧ (∀ b ∈ B, 0 < classOf D b ∧ decompOf D b = []) ∧ B.Pairwise (fun x y => classOf D x ≤ classOf D y) ∧ ∀ b ∈ B, ∀ z, p.getLast? = some z → 0 < classOf D z ∧ classOf D b ≤ classOf D z
theorem CI.zero (D : PD) : CI D [] ([], none) := ⟨fun k => rfl, fun s h => by cases h⟩
theorem CI.push {D : PD} (h : Good D) {p : List Int} {o : List Int × Option Nat} {c : Int} (hi : CI D p o) (hc : decompOf D c = []) (ho : ∀ z, p.getLast? = some z → 0 < classOf D c → classOf D z ≤ classOf D c) (hne : o.1 ≠ [] → p ≠ []) : CI D (p ++ [c]) (push D o c) := by
  refine ⟨fun k => ?_, fun s hs => ?_⟩
  · unfold Nm.push
    rw [flat_append, List.filter_append, List.filter_append, hi.same, flat_leaf (l := [c]) (fun x hx => by rw [List.mem_singleton] at hx; rw [hx]; exact hc)]
  · unfold Nm.push at hs ⊢
    by_cases h0 : classOf D c = 0
    · simp only [if_pos h0, Option.some.injEq] at hs
      subst hs
      exact ⟨o.1, c, [], rfl, rfl, by simp, List.Pairwise.nil, by simp⟩
    · simp only [if_neg h0] at hs
      have hpos : 0 < classOf D c := by have := h.nn c; omega
      obtain ⟨A, a, B, e, es, h1, h2, h3⟩ := hi.shape s hs
      have hlast : ∃ z, p.getLast? = some z := by
        have : p ≠ [] := hne (by rw [e]; simp)
        cases hz : p.getLast? with
        | none => rw [List.getLast?_eq_none_iff] at hz; exact absurd hz this
        | some z => exact ⟨z, rfl⟩
      obtain ⟨z, hz⟩ := hlast
      have hle : ∀ b ∈ B, classOf D b ≤ classOf D c := fun b hb => Int.le_trans (h3 b hb z hz).2 (ho z hz hpos)
      refine ⟨A, a, B ++ [c], by simp [e], es, fun b hb => ?_, ?_, fun b hb z' hz' => ?_⟩
      · rcases List.mem_append.1 hb with hb | hb
        · exact h1 b hb
        · rw [List.mem_singleton] at hb
          subst hb
          exact ⟨hpos, hc⟩
      · rw [List.pairwise_append]
        exact ⟨h2, List.pairwise_singleton _ _, fun b hb y hy => by rw [List.mem_singleton] at hy; subst hy; exact hle b hb⟩
      · rw [List.getLast?_append] at hz'
        simp only [List.getLast?_singleton, Option.some_or, Option.some.injEq] at hz'
        subst hz'
        refine ⟨hpos, ?_⟩
        rcases List.mem_append.1 hb with hb | hb
        · exact hle b hb
        · rw [List.mem_singleton] at hb
          subst hb
          exact Int.le_refl _
theorem getD_mid (A B : List Int) (a : Int) : (A ++ (a :: B)).getD A.length 0 = a := by simp [List.getD]
theorem set_mid (A B : List Int) (a r : Int) : (A ++ (a :: B)).set A.length r = A ++ (r :: B) := by
  rw [List.set_append_right _ _ (Nat.le_refl _), Nat.sub_self, List.set_cons_zero]
theorem CI.comp {D : PD} (h : Good D) {p : List Int} {o : List Int × Option Nat} {c r : Int} {s : Nat} (hi : CI D p o) (hs : o.2 = some s) (hf : free D o.1 s c) (hr : composeOf D (o.1.getD s 0) c = some r) (hc : decompOf D c = []) (ho : ∀ z, p.getLast? = some z → 0 < classOf D c → classOf D z ≤ classOf D c) :
    CI D (p ++ [c]) (o.1.set s r, some s) := by
  obtain ⟨A, a, B, e, es, h1, h2, h3⟩ := hi.shape s hs
  have hBc : ∀ b ∈ B, classOf D b < classOf D c := by
    intro b hb
    unfold free at hf
    rw [e] at hf
    have hBl : 0 < B.length := List.length_pos_of_mem hb
    rcases hf with hf | hf
    · simp at hf; omega
    · have hlast : (A ++ (a :: B)).getD ((A ++ (a :: B)).length - 1) 0 = B.getD (B.length - 1) 0 := by
        simp only [List.length_append, List.length_cons, List.getD]
        rw [List.getElem?_append_right (by omega), show A.length + (B.length + 1) - 1 - A.length = (B.length - 1) + 1 by omega, List.getElem?_cons_succ]
      rw [hlast] at hf
      obtain ⟨i, hi, ei⟩ := List.getElem_of_mem hb
      have hgl : B.getD (B.length - 1) 0 = B[B.length - 1] := by simp [List.getD, List.getElem?_eq_getElem (show B.length - 1 < B.length by omega)]
      rw [hgl] at hf
      by_cases hil : i = B.length - 1
      · subst hil
        rw [← ei]; exact hf
      · have := List.pairwise_iff_getElem.1 h2 i (B.length - 1) hi (by omega) (by omega)
        rw [ei] at this
        omega
  rw [e, es, getD_mid] at hr
  refine ⟨fun k => ?_, fun s' hs' => ?_⟩
  · show (flat D (o.1.set s r)).filter _ = _
    have hsame := hi.same k
    rw [e] at hsame
    rw [e, es, set_mid, List.filter_append, ← hsame]
    have hB : flat D B = B := flat_leaf (fun x hx => (h1 x hx).2)
    rw [flat_append, flat_append, flat_cons, flat_cons, whole_compose h hr hc, hB]
    simp only [List.filter_append, List.append_assoc]
    congr 2
    by_cases hck : P0 (classOf D) k c = true
    · have hBn : B.filter (P0 (classOf D) k) = [] ∨ B = [] := by
        by_cases hB0 : B = []
        · exact .inr hB0
        · left
          rw [List.filter_eq_nil_iff]
          intro b hb hp
          have k1 := hBc b hb
          have k2 := (h1 b hb).1
          rw [P0_iff] at hp hck
          omega
      rcases hBn with hBn | hBn
      · rw [hBn]; simp
      · rw [hBn]; simp
    · have : [c].filter (P0 (classOf D) k) = [] := by simp [List.filter_cons, hck]
      rw [this]; simp
  · simp only [Option.some.injEq] at hs'
    subst hs'
    refine ⟨A, r, B, by show o.1.set s r = _; rw [e, es, set_mid], es, h1, h2, fun b hb z hz => ?_⟩
    rw [List.getLast?_append] at hz
    simp only [List.getLast?_singleton, Option.some_or, Option.some.injEq] at hz
    subst hz
    have k1 := hBc b hb
    have k2 := (h1 b hb).1
    omega
theorem comp_inv {D : PD} (h : Good D) : ∀ (d p : List Int) (o : List Int × Option Nat), Ord (classOf D) (p ++ d) → (∀ x ∈ d, decompOf D x = []) → CI D p o → (o.1 ≠ [] → p ≠ []) → CI D (p ++ d) (d.foldl (compStep D) o)
  | [], p, o, _, _, hi, _ => by rw [List.append_nil]; exact hi
  | c :: d, p, o, ho, hd, hi, hne => by
    have hc := hd c (by simp)
    have hoc : ∀ z, p.getLast? = some z → 0 < classOf D c → classOf D z ≤ classOf D c := by
      intro z hz h0
      rw [List.getLast?_eq_getElem?] at hz
      have hl := (List.getElem?_eq_some_iff.1 hz).1
      refine ho (p.length - 1) z c ?_ ?_ h0
      · rw [List.getElem?_append_left hl]; exact hz
      · rw [List.getElem?_append_right (by omega), show p.length - 1 + 1 - p.length = 0 by omega]; rfl
    rw [show p ++ c :: d = (p ++ [c]) ++ d by simp] at ho ⊢
    rw [List.foldl_cons]
    refine comp_inv h d (p ++ [c]) _ ho (fun x hx => hd x (by simp [hx])) ?_ (fun _ => by simp)
    unfold compStep
    cases hs : o.2 with
    | none => exact hi.push h hc hoc hne
    | some s =>
      simp only
      split
      · rename_i hf
        cases hr : composeOf D (o.1.getD s 0) c with
        | none => exact hi.push h hc hoc hne
        | some r => exact hi.comp h hs hf hr hc hoc
      · exact hi.push h hc hoc hne
/-- What is composed decomposes to what it came from. -/
theorem dec_comp {D : PD} (h : Good D) (l : List Int) : decN D (compN D l) = decN D l := by
  have hi := comp_inv h (decN D l) [] ([], none) (dec_ord D l) (fun x hx => dec_leaf h hx) (CI.zero D) (fun e => absurd rfl e)
  exact (dec_uniq h (dec_ord D l) (fun k => (hi.same k).symm)).symm
theorem comp_dec {D : PD} (h : Good D) (l : List Int) : compN D (decN D l) = compN D l := by unfold compN; rw [dec_dec h]
theorem comp_comp {D : PD} (h : Good D) (l : List Int) : compN D (compN D l) = compN D l := by
  have e := dec_comp h l
  unfold compN at e ⊢
  rw [e]
theorem dec_iff {D : PD} (h : Good D) (l m : List Int) : decN D m = decN D l ↔ compN D m = compN D l :=
  ⟨fun e => by unfold compN; rw [e], fun e => by rw [← dec_comp h m, e, dec_comp h l]⟩
theorem compStep_length (D : PD) (o : List Int × Option Nat) (c : Int) : (compStep D o c).1.length ≤ o.1.length + 1 := by
  unfold compStep push
  split
  · simp
  · split
    · split
      · simp
      · simp
    · simp
theorem comp_length (D : PD) (l : List Int) : (compN D l).length ≤ (decN D l).length := by
  have key : ∀ (d : List Int) (o : List Int × Option Nat), (d.foldl (compStep D) o).1.length ≤ o.1.length + d.length := by
    intro d
    induction d with
    | nil => intro o; simp
    | cons c d ih =>
      intro o
      have := ih (compStep D o c)
      have := compStep_length D o c
      rw [List.foldl_cons, List.length_cons]
      omega
  have := key (decN D l) ([], none)
  simp at this
  exact this

/-! ### what is settled -/
def settled (c : Int → Int) : List Int → Nat
  | [] => 0
  | x :: t => if settled c t = 0 then (if c x = 0 then 1 else 0) else settled c t + 1
structure IsSet (c : Int → Int) (d : List Int) (n : Nat) : Prop where
  le : n ≤ d.length
  zero : n = 0 ∨ ∃ x, d[n - 1]? = some x ∧ c x = 0
  rest : ∀ i x, n ≤ i → d[i]? = some x → c x ≠ 0
theorem IsSet.uniq {c : Int → Int} {d : List Int} {n m : Nat} (h : IsSet c d n) (k : IsSet c d m) : n = m := by
  have key : ∀ {n m : Nat}, IsSet c d n → IsSet c d m → n ≤ m := by
    intro n m h k
    rcases h.zero with e | ⟨x, hx, h0⟩
    · omega
    · by_cases hle : n ≤ m
      · exact hle
      · exact absurd h0 (k.rest (n - 1) x (by omega) hx)
  have := key h k
  have := key k h
  omega
theorem settled_is (c : Int → Int) : ∀ d, IsSet c d (settled c d)
  | [] => ⟨Nat.le_refl _, .inl rfl, fun i x _ h => by simp at h⟩
  | y :: t => by
    have ih := settled_is c t
    unfold settled
    by_cases h0 : settled c t = 0
    · rw [if_pos h0]
      have hr : ∀ i x, t[i]? = some x → c x ≠ 0 := fun i x => ih.rest i x (by omega)
      by_cases hy : c y = 0
      · rw [if_pos hy]
        refine ⟨by simp, .inr ⟨y, rfl, hy⟩, fun i x hi hx => ?_⟩
        obtain ⟨j, rfl⟩ : ∃ j, i = j + 1 := ⟨i - 1, by omega⟩
        exact hr j x (by simpa using hx)
      · rw [if_neg hy]
        refine ⟨by simp, .inl rfl, fun i x hi hx => ?_⟩
        cases i with
        | zero => simp at hx; subst hx; exact hy
        | succ j => exact hr j x (by simpa using hx)
    · rw [if_neg h0]
      refine ⟨by have := ih.le; simp; omega, .inr ?_, fun i x hi hx => ?_⟩
      · rcases ih.zero with e | ⟨x, hx, hz⟩
        · exact absurd e h0
        · refine ⟨x, ?_, hz⟩
          rw [show settled c t + 1 - 1 = (settled c t - 1) + 1 by omega, List.getElem?_cons_succ]
          exact hx
      · obtain ⟨j, rfl⟩ : ∃ j, i = j + 1 := ⟨i - 1, by omega⟩
        exact ih.rest j x (by omega) (by simpa using hx)
theorem IsSet.more {c : Int → Int} {d t : List Int} {n m : Nat} (h : IsSet c d n) (k : IsSet c t m) : IsSet c (d.take n ++ t) (n + m) := by
  have hl := h.le
  have hk := k.le
  have ht : (d.take n).length = n := by rw [List.length_take]; omega
  refine ⟨by rw [List.length_append, ht]; omega, ?_, fun i x hi hx => ?_⟩
  · by_cases hm : m = 0
    · by_cases hn : n = 0
      · exact .inl (by omega)
      · obtain ⟨x, hx, h0⟩ := h.zero.resolve_left hn
        refine .inr ⟨x, ?_, h0⟩
        rw [List.getElem?_append_left (by omega), List.getElem?_take, if_pos (by omega), hm]
        exact hx
    · obtain ⟨x, hx, h0⟩ := k.zero.resolve_left hm
      refine .inr ⟨x, ?_, h0⟩
      rw [List.getElem?_append_right (by omega), ht, show n + m - 1 - n = m - 1 by omega]
      exact hx
  · rw [List.getElem?_append_right (by omega), ht] at hx
    exact k.rest (i - n) x (by omega) hx
/-- Behind what is settled, more points come: what was settled stands. -/
theorem dec_more {D : PD} (h : Good D) (l m : List Int) {n : Nat} (hn : IsSet (classOf D) (decN D l) n) : decN D (l ++ m) = (decN D l).take n ++ decN D ((decN D l).drop n ++ m) := by
  refine (dec_uniq h (Ord.append ?_ (dec_ord D _) (fun x y hx hy h0 => ?_)) (fun k => ?_)).symm
  · have := dec_ord D l
    rw [← List.take_append_drop n (decN D l)] at this
    exact this.left
  · by_cases hn0 : n = 0
    · rw [hn0, List.take_zero] at hx; cases hx
    · obtain ⟨z, hz, hz0⟩ : ∃ z, (decN D l)[n - 1]? = some z ∧ classOf D z = 0 := hn.zero.resolve_left hn0
      have hl := hn.le
      have hz' : ((decN D l).take n).getLast? = some z := by
        rw [List.getLast?_eq_getElem?, List.length_take, List.getElem?_take]
        have := (List.getElem?_eq_some_iff.1 hz).1
        rw [show min n (decN D l).length - 1 = n - 1 by omega, if_pos (by omega)]
        exact hz
      rw [hz'] at hx
      injection hx with hx
      subst hx
      rw [hz0]; omega
  · rw [List.filter_append, dec_filter, flat_append, flat_append, List.filter_append, List.filter_append, flat_leaf (l := (decN D l).drop n) (fun x hx => dec_leaf h (List.mem_of_mem_drop hx)), ← dec_filter D k l, ← List.append_assoc, ← List.filter_append, List.take_append_drop]
end Go.Proofs.YtikpkjpnehkbfaaGreatDoor.Nm
