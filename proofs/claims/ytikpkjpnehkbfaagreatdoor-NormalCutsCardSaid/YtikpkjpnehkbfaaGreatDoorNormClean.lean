/- What is ill-formed stays so: plain. -/
import Derived.Test.YtikpkjpnehkbfaaGreatDoorNormText
namespace Go.Proofs.YtikpkjpnehkbfaaGreatDoor.Nm
set_option linter.unusedVariables false
set_option linter.unusedSimpArgs false
open Go Go.Lib Go.Proofs.YtikpkjpnehkbfaaGreatDoor.Sp Go.Proofs.YtikpkjpnehkbfaaGreatDoor.Ut

def byteP (r : Int) : UInt8 := (r - 1114112).toNat.toUInt8
/-- The bytes of the ill-formed points at a row's beginning. -/
def runB : List Int → Bytes
  | [] => []
  | r :: t => if illP r = true then byteP r :: runB t else []
/-- No ill-formed byte begins a character's bytes with those behind it. -/
def Clean : List Int → Prop
  | [] => True
  | r :: t => Clean t ∧ (illP r = true → decodeL (byteP r :: runB t) = (65533, 1))
theorem ok_char {r : Int} (h : okP r) (hi : ¬ illP r = true) : isChar r = true := by
  rcases h with h | h
  · exact h
  · simp [illP] at hi; omega
theorem char_ill {r : Int} (h : isChar r = true) : illP r = false := by
  have := char_iff.1 h
  simp [illP]; omega
theorem encP_ill {r : Int} (h : okP r) (hi : illP r = true) : encP r = [byteP r] ∧ 128 ≤ (byteP r).toNat := by
  have hb : 1114240 ≤ r ∧ r ≤ 1114367 := by
    rcases h with h | h
    · rw [char_ill h] at hi; cases hi
    · exact h
  refine ⟨by unfold encP byteP; rw [if_pos (by omega)], ?_⟩
  have := byteN (z := r - 1114112) (by omega) (by omega)
  unfold byteP
  omega
theorem encP_char {r : Int} (h : isChar r = true) : encP r = encodeRune r := by
  have := char_iff.1 h
  unfold encP
  rw [if_neg (by omega)]
/-- What a text of points is behind a run of ill-formed bytes: nothing, or no byte of the middle. -/
theorem text_run : ∀ (t : List Int), (∀ x ∈ t, okP x) → ∃ v, textOf t = runB t ++ v ∧ (v = [] ∨ (v.getD 0 0).toNat / 64 ≠ 2)
  | [], _ => ⟨[], rfl, .inl rfl⟩
  | r :: t, h => by
    by_cases hi : illP r = true
    · obtain ⟨v, e, hv⟩ := text_run t (fun x hx => h x (by simp [hx]))
      refine ⟨v, ?_, hv⟩
      rw [text_cons, (encP_ill (h r (by simp)) hi).1, e, runB, if_pos hi]
      rfl
    · have hc := ok_char (h r (by simp)) hi
      refine ⟨textOf (r :: t), by rw [runB, if_neg hi]; rfl, .inr ?_⟩
      rw [text_cons, encP_char hc]
      exact encode_first hc _
theorem getD_end {a : Bytes} {i : Nat} (h : a.length ≤ i) : a.getD i 0 = 0 := by simp [List.getD, List.getElem?_eq_none h]
theorem getD_left {a v : Bytes} {i : Nat} (h : i < a.length) : (a ++ v).getD i 0 = a.getD i 0 := by simp [List.getD, List.getElem?_append_left h]
theorem getD_at {a v : Bytes} {i : Nat} (h : i = a.length) : (a ++ v).getD i 0 = v.getD 0 0 := by subst h; simp [List.getD, List.getElem?_append_right]
theorem decodeN_same {n m b0 b1 b2 b3 c1 c2 c3 : Nat} (h1 : (1 < n ∧ b1 / 64 = 2 ∧ 1 < m ∧ c1 = b1) ∨ (¬ (1 < n ∧ b1 / 64 = 2) ∧ ¬ (1 < m ∧ c1 / 64 = 2)))
    (h2 : (2 < n ∧ b2 / 64 = 2 ∧ 2 < m ∧ c2 = b2) ∨ (¬ (2 < n ∧ b2 / 64 = 2) ∧ ¬ (2 < m ∧ c2 / 64 = 2)) ∨ (¬ (1 < n ∧ b1 / 64 = 2)))
    (h3 : (3 < n ∧ b3 / 64 = 2 ∧ 3 < m ∧ c3 = b3) ∨ (¬ (3 < n ∧ b3 / 64 = 2) ∧ ¬ (3 < m ∧ c3 / 64 = 2)) ∨ (¬ (1 < n ∧ b1 / 64 = 2)) ∨ ¬ (2 < n ∧ b2 / 64 = 2)) : decodeN n b0 b1 b2 b3 = decodeN m b0 c1 c2 c3 := by
  rcases h1 with ⟨a1, a2, a3, rfl⟩ | ⟨p, q⟩
  · have hp : (1 < n ∧ c1 / 64 = 2) = True := eq_true ⟨a1, a2⟩
    have hq : (1 < m ∧ c1 / 64 = 2) = True := eq_true ⟨a3, a2⟩
    rcases h2 with ⟨d1, d2, d3, rfl⟩ | ⟨p, q⟩ | h
    · have hp2 : (2 < n ∧ c2 / 64 = 2) = True := eq_true ⟨d1, d2⟩
      have hq2 : (2 < m ∧ c2 / 64 = 2) = True := eq_true ⟨d3, d2⟩
      rcases h3 with ⟨f1, f2, f3, rfl⟩ | ⟨p, q⟩ | h | h
      · have hp3 : (3 < n ∧ c3 / 64 = 2) = True := eq_true ⟨f1, f2⟩
        have hq3 : (3 < m ∧ c3 / 64 = 2) = True := eq_true ⟨f3, f2⟩
        simp only [decodeN, hp, hq, hp2, hq2, hp3, hq3]
      · have hp3 : (3 < n ∧ b3 / 64 = 2) = False := eq_false p
        have hq3 : (3 < m ∧ c3 / 64 = 2) = False := eq_false q
        simp only [decodeN, hp, hq, hp2, hq2, hp3, hq3, and_false, if_false]
      · exact absurd ⟨a1, a2⟩ h
      · exact absurd ⟨d1, d2⟩ h
    · have hp2 : (2 < n ∧ b2 / 64 = 2) = False := eq_false p
      have hq2 : (2 < m ∧ c2 / 64 = 2) = False := eq_false q
      simp only [decodeN, hp, hq, hp2, hq2, false_and, and_false, if_false]
    · exact absurd ⟨a1, a2⟩ h
  · have hp : (1 < n ∧ b1 / 64 = 2) = False := eq_false p
    have hq : (1 < m ∧ c1 / 64 = 2) = False := eq_false q
    simp only [decodeN, hp, hq, false_and, and_false, if_false]
/-- What is no byte of the middle plays no part. -/
theorem decode_stop (b : UInt8) (a v : Bytes) (hv : v = [] ∨ (v.getD 0 0).toNat / 64 ≠ 2) : decodeL (b :: (a ++ v)) = decodeL (b :: a) := by
  by_cases hv0 : v = []
  · rw [hv0, List.append_nil]
  have hv := hv.resolve_left hv0
  rw [decodeL_N, decodeL_N]
  simp only [List.getD_cons_zero, List.length_cons, List.length_append, List.getD_cons_succ]
  have hl := List.length_pos_iff.2 hv0
  by_cases h0 : a.length = 0
  · have ea : a = [] := List.length_eq_zero_iff.1 h0
    subst ea
    rw [List.nil_append]
    generalize (v.getD 0 0).toNat = c at *
    exact decodeN_same (.inr ⟨by omega, by simp⟩) (.inr (.inr (by omega))) (.inr (.inr (.inl (by omega))))
  · by_cases h1 : a.length = 1
    · rw [getD_left (by omega : 0 < a.length), getD_at (v := v) h1.symm, getD_end (a := a) (i := 1) (by omega), getD_end (a := a) (i := 2) (by omega)]
      generalize (v.getD 0 0).toNat = c at *
      generalize (a.getD 0 0).toNat = d at *
      exact decodeN_same (by omega) (.inr (.inl ⟨by omega, by omega⟩)) (.inr (.inr (.inr (by omega))))
    · by_cases h2 : a.length = 2
      · rw [getD_left (by omega : 0 < a.length), getD_left (by omega : 1 < a.length), getD_at (v := v) h2.symm, getD_end (a := a) (i := 2) (by omega)]
        generalize (v.getD 0 0).toNat = c at *
        generalize (a.getD 0 0).toNat = d at *
        generalize (a.getD 1 0).toNat = e at *
        exact decodeN_same (by omega) (by omega) (.inr (.inl ⟨by omega, by omega⟩))
      · rw [getD_left (by omega : 0 < a.length), getD_left (by omega : 1 < a.length), getD_left (by omega : 2 < a.length)]
        generalize (a.getD 0 0).toNat = d at *
        generalize (a.getD 1 0).toNat = e at *
        generalize (a.getD 2 0).toNat = f at *
        exact decodeN_same (by omega) (by omega) (by omega)
/-- A clean row is read again as it is. -/
theorem clean_read : ∀ (l : List Int), (∀ x ∈ l, okP x) → Clean l → ptsOf (textOf l) = l
  | [], _, _ => rfl
  | r :: t, h, hc => by
    have ih := clean_read t (fun x hx => h x (by simp [hx])) hc.1
    by_cases hi : illP r = true
    · obtain ⟨e, hb⟩ := encP_ill (h r (by simp)) hi
      obtain ⟨v, ev, hv⟩ := text_run t (fun x hx => h x (by simp [hx]))
      have hd : decodeL (byteP r :: textOf t) = (65533, 1) := by rw [ev, decode_stop _ _ _ hv]; exact hc.2 hi
      rw [text_cons, e, List.singleton_append, pts_step (by simp), hd]
      have hp : ptL (byteP r :: textOf t) = r := by
        unfold ptL
        rw [if_pos hd, List.getD_cons_zero]
        have hr : 1114240 ≤ r ∧ r ≤ 1114367 := by
          rcases h r (by simp) with h | h
          · rw [char_ill h] at hi; cases hi
          · exact h
        have := byteN (z := r - 1114112) (by omega) (by omega)
        unfold byteP
        omega
      rw [hp]
      simp only [List.drop_one, List.tail_cons]
      rw [ih]
    · have hch := ok_char (h r (by simp)) hi
      have hd := decode_encode hch (textOf t)
      have hne : encodeRune r ++ textOf t ≠ [] := by
        have := (encP_len r).1
        rw [encP_char hch] at this
        intro e
        rw [List.append_eq_nil_iff] at e
        rw [e.1] at this
        cases this
      have hp : ptL (encodeRune r ++ textOf t) = r := by
        have h0 := (char_iff.1 hch).1
        have hlen := (encP_len r).1
        unfold ptL
        rw [hd]
        split
        · rename_i h'
          injection h' with h1 h2
          exfalso
          have e : r = 65533 := by omega
          subst e
          revert h2
          decide
        · simp only; omega
      rw [text_cons, encP_char hch, pts_step hne, hd, hp]
      simp only [List.drop_left]
      rw [ih]
theorem runB_pts : ∀ (n : Nat) (l : Bytes), l.length ≤ n → ∃ v, l = runB (ptsOf l) ++ v ∧ (v = [] ∨ (v.getD 0 0).toNat / 64 ≠ 2) := fun n l h => by
  have := text_run (ptsOf l) (pts_ok l.length l (Nat.le_refl _))
  rw [text_pts l.length l (Nat.le_refl _)] at this
  exact this
/-- What is read is clean. -/
theorem pts_clean : ∀ (n : Nat) (l : Bytes), l.length ≤ n → Clean (ptsOf l)
  | 0, l, h => by
    have : l = [] := List.length_eq_zero_iff.1 (by omega)
    subst this
    exact trivial
  | n + 1, l, h => by
    by_cases hl : l = []
    · subst hl; exact trivial
    · have hlt := drop_lt hl
      rw [pts_step hl]
      refine ⟨pts_clean n _ (by omega), fun hi => ?_⟩
      have hd : decodeL l = (65533, 1) := by
        by_cases hd : decodeL l = (65533, 1)
        · exact hd
        · unfold ptL at hi
          rw [if_neg hd, char_ill (decode_char l hl).1] at hi
          cases hi
      rw [hd]
      obtain ⟨v, e, hv⟩ := runB_pts (l.drop 1).length (l.drop 1) (Nat.le_refl _)
      rw [← decode_stop _ _ v hv, ← e]
      have hb : byteP (ptL l) = l.getD 0 0 := by
        unfold ptL byteP
        rw [if_pos hd, show (1114112 + ((l.getD 0 0).toNat : Int) - 1114112) = ((l.getD 0 0).toNat : Int) by omega]
        simp
      rw [hb]
      have e2 : l.getD 0 0 :: l.drop 1 = l := by
        cases l with
        | nil => exact absurd rfl hl
        | cons a l => rfl
      rw [e2]
      exact hd

/-! ### runs of what is well-formed, taken as one -/
/-- A row where each stretch of characters counts as one. -/
def skC : List (Option UInt8) → List (Option UInt8)
  | none :: t => none :: t
  | t => none :: t
def sk : List Int → List (Option UInt8)
  | [] => []
  | r :: t => if illP r = true then some (byteP r) :: sk t else skC (sk t)
theorem skC_idem (t : List (Option UInt8)) : skC (skC t) = skC t := by
  cases t with
  | nil => rfl
  | cons a t => cases a <;> rfl
def runS : List (Option UInt8) → Bytes
  | some b :: t => b :: runS t
  | _ => []
def CleanS : List (Option UInt8) → Prop
  | [] => True
  | none :: t => CleanS t
  | some b :: t => CleanS t ∧ decodeL (b :: runS t) = (65533, 1)
theorem runS_skC (t : List (Option UInt8)) : runS (skC t) = [] := by
  cases t with
  | nil => rfl
  | cons a t => cases a <;> rfl
theorem cleanS_skC (t : List (Option UInt8)) : CleanS (skC t) ↔ CleanS t := by
  cases t with
  | nil => exact Iff.rfl
  | cons a t => cases a <;> exact Iff.rfl
theorem runS_sk : ∀ l, runS (sk l) = runB l
  | [] => rfl
  | r :: t => by
    unfold sk runB
    by_cases h : illP r = true
    · rw [if_pos h, if_pos h, runS, runS_sk t]
    · rw [if_neg h, if_neg h, runS_skC]
theorem clean_sk : ∀ l, Clean l ↔ CleanS (sk l)
  | [] => Iff.rfl
  | r :: t => by
    unfold sk Clean
    by_cases h : illP r = true
    · rw [if_pos h, CleanS, runS_sk, clean_sk t]
      exact ⟨fun ⟨a, b⟩ => ⟨a, b h⟩, fun ⟨a, b⟩ => ⟨a, fun _ => b⟩⟩
    · rw [if_neg h, cleanS_skC, clean_sk t]
      exact ⟨fun a => a.1, fun a => ⟨a, fun e => absurd e h⟩⟩
theorem sk_cons {r : Int} (h : illP r = false) (t : List Int) : sk (r :: t) = skC (sk t) := by rw [sk, h]; rfl
theorem sk_plain : ∀ (w : List Int), w ≠ [] → (∀ x ∈ w, illP x = false) → ∀ t, sk (w ++ t) = skC (sk t)
  | [], h, _, _ => absurd rfl h
  | x :: w, _, h, t => by
    rw [List.cons_append, sk_cons (h x (by simp))]
    by_cases hw : w = []
    · rw [hw]; rfl
    · rw [sk_plain w hw (fun y hy => h y (by simp [hy])), skC_idem]
/-- The same ahead, the same behind. -/
theorem sk_app : ∀ (a : List Int) {t t' : List Int}, sk t = sk t' → sk (a ++ t) = sk (a ++ t')
  | [], _, _, h => h
  | x :: a, t, t', h => by
    have ih := sk_app a h
    rw [List.cons_append, List.cons_append, sk, sk, ih]
theorem whole_char {D : PD} (hok : ∃ st : St, st.d = D ∧ StOk st) : ∀ (k : Nat) (r : Int), isChar r = true → ∀ x ∈ wholeGo D k r, isChar x = true
  | 0, r, h, x, hx => by
    rw [wholeGo, List.mem_singleton] at hx
    rw [hx]; exact h
  | k + 1, r, h, x, hx => by
    rw [wholeGo] at hx
    split at hx
    · rw [List.mem_singleton] at hx
      rw [hx]; exact h
    · obtain ⟨q, hq, hx⟩ := List.mem_flatMap.1 hx
      refine whole_char hok k q ?_ x hx
      obtain ⟨st, rfl, ho⟩ := hok
      unfold decompOf at hq
      split at hq
      · rename_i hs
        have hb : 44032 ≤ r ∧ r < 55204 := by simp [isSyl] at hs; exact hs
        unfold sylOf at hq
        simp only [List.mem_append, List.mem_cons, List.not_mem_nil, or_false] at hq
        rcases hq with (rfl | rfl) | hq
        · exact char_iff.2 (by omega)
        · exact char_iff.2 (by omega)
        · split at hq
          · cases hq
          · simp only [List.mem_singleton] at hq
            subst hq
            exact char_iff.2 (by omega)
      · cases hl : lookD st.d.decomps r with
        | none => rw [hl] at hq; cases hq
        | some ps =>
          rw [hl] at hq
          exact (ho.chars _ (lookD_in hl)).2 q hq
theorem decomp_char {D : PD} (h : Good D) {r : Int} (hd : decompOf D r ≠ []) : isChar r = true := by
  obtain ⟨st, rfl, ho⟩ := h.ok
  unfold decompOf at hd
  split at hd
  · rename_i hs
    have hb : 44032 ≤ r ∧ r < 55204 := by simp [isSyl] at hs; exact hs
    exact char_iff.2 (by omega)
  · cases hl : lookD st.d.decomps r with
    | none => rw [hl] at hd; exact absurd rfl hd
    | some ps => exact (ho.chars _ (lookD_in hl)).1
theorem whole_ill {D : PD} (h : Good D) {r : Int} (hc : isChar r = false) : wholeOf D r = [r] := by
  refine whole_leaf ?_
  cases hd : decompOf D r with
  | nil => rfl
  | cons q l =>
    have := decomp_char h (r := r) (by rw [hd]; simp)
    rw [hc] at this; cases this
theorem whole_ok {D : PD} (h : Good D) {r : Int} (hr : okP r) : ∀ x ∈ wholeOf D r, okP x ∧ illP x = illP r := by
  intro x hx
  by_cases hc : isChar r = true
  · have := whole_char h.ok _ r hc x hx
    exact ⟨.inl this, by rw [char_ill this, char_ill hc]⟩
  · rw [whole_ill h (by simpa using hc), List.mem_singleton] at hx
    rw [hx]
    exact ⟨hr, rfl⟩
theorem dec_ok {D : PD} (h : Good D) {l : List Int} (hl : ∀ x ∈ l, okP x) : ∀ x ∈ decN D l, okP x := by
  intro x hx
  obtain ⟨r, hr, hx⟩ := dec_mem.1 hx
  exact (whole_ok h (hl r hr) x hx).1
theorem class_ill {D : PD} {r : Int} (h : 0 < classOf D r) : illP r = false := by
  by_cases hc : isChar r = true
  · exact char_ill hc
  · exfalso
    unfold classOf at h
    rw [show isChar r = false by simpa using hc] at h
    simp at h
theorem sk_flat {D : PD} (h : Good D) : ∀ {l : List Int}, (∀ x ∈ l, okP x) → sk (flat D l) = sk l
  | [], _ => rfl
  | r :: l, hl => by
    have ih := sk_flat h (l := l) (fun x hx => hl x (by simp [hx]))
    rw [flat_cons]
    cases hi : illP r with
    | true =>
      have hc : isChar r = false := by
        cases hc : isChar r with
        | false => rfl
        | true => rw [char_ill hc] at hi; cases hi
      rw [whole_ill h hc, List.singleton_append, sk, sk, ih]
    | false =>
      have hne : wholeOf D r ≠ [] := by
        intro e
        have := (h.len r).1
        rw [e] at this
        cases this
      rw [sk_plain _ hne (fun x hx => by rw [(whole_ok h (hl r (by simp)) x hx).2]; exact hi), sk_cons hi, ih]
theorem sk_ins {D : PD} (x : Int) : ∀ (r : List Int) (B : List Int), sk ((ins (classOf D) x r).reverse ++ B) = sk (r.reverse ++ (x :: B))
  | [], B => rfl
  | y :: t, B => by
    unfold ins
    by_cases hxy : 0 < classOf D x ∧ classOf D x < classOf D y
    · rw [if_pos hxy, List.reverse_cons, List.append_assoc, sk_ins x t ([y] ++ B), List.reverse_cons, List.append_assoc]
      refine sk_app _ ?_
      have hx := class_ill hxy.1
      have hy := class_ill (D := D) (r := y) (by omega)
      rw [List.singleton_append, List.singleton_append, sk_cons hx, sk_cons hy, sk_cons hy, sk_cons hx]
    · rw [if_neg hxy, List.reverse_cons, List.append_assoc]
      rfl
theorem sk_ordR {D : PD} (l : List Int) : sk (ordR (classOf D) l) = sk l := by
  have key : ∀ (l r B : List Int), sk ((l.foldl (fun r x => ins (classOf D) x r) r).reverse ++ B) = sk (r.reverse ++ (l ++ B)) := by
    intro l
    induction l with
    | nil => intro r B; rfl
    | cons x l ih => intro r B; rw [List.foldl_cons, ih, sk_ins]; rfl
  have := key l [] []
  simp only [List.append_nil, List.reverse_nil, List.nil_append] at this
  exact this
theorem sk_dec {D : PD} (h : Good D) {l : List Int} (hl : ∀ x ∈ l, okP x) : sk (decN D l) = sk l := (sk_ordR _).trans (sk_flat h hl)
theorem compose_char {D : PD} (h : Good D) {a b r : Int} (hc : composeOf D a b = some r) : isChar r = true ∧ isChar a = true ∧ isChar b = true := by
  obtain ⟨st, rfl, ho⟩ := h.ok
  unfold composeOf at hc
  split at hc
  · injection hc with hc
    exact ⟨char_iff.2 (by omega), char_iff.2 (by omega), char_iff.2 (by omega)⟩
  · split at hc
    · rename_i hs
      have hb : 44032 ≤ a ∧ a < 55204 := by have := hs.1; simp [isSyl] at this; exact this
      injection hc with hc
      exact ⟨char_iff.2 (by omega), char_iff.2 (by omega), char_iff.2 (by omega)⟩
    · split at hc
      · cases hc
      · have hm := ho.chars _ (least_some hc).1
        exact ⟨hm.1, hm.2 a (by simp), hm.2 b (by simp)⟩
theorem comp_sk {D : PD} (h : Good D) : ∀ (d p : List Int) (o : List Int × Option Nat), Ord (classOf D) (p ++ d) → (∀ x ∈ d, decompOf D x = []) → CI D p o → (o.1 ≠ [] → p ≠ []) → (∀ x ∈ o.1, okP x) → (∀ x ∈ d, okP x) →
    sk (d.foldl (compStep D) o).1 = sk (o.1 ++ d) ∧ ∀ x ∈ (d.foldl (compStep D) o).1, okP x
  | [], p, o, _, _, hi, _, h1, _ => ⟨by rw [List.append_nil]; rfl, h1⟩
  | c :: d, p, o, ho, hd, hi, hne, h1, h2 => by
    have hc := hd c (by simp)
    have hoc : ∀ z, p.getLast? = some z → 0 < classOf D c → classOf D z ≤ classOf D c := by
      intro z hz h0
      rw [List.getLast?_eq_getElem?] at hz
      have hl := (List.getElem?_eq_some_iff.1 hz).1
      refine ho (p.length - 1) z c ?_ ?_ h0
      · rw [List.getElem?_append_left hl]; exact hz
      · rw [List.getElem?_append_right (by omega), show p.length - 1 + 1 - p.length = 0 by omega]; rfl
    rw [show p ++ c :: d = (p ++ [c]) ++ d by simp] at ho
    rw [List.foldl_cons]
    have next : ∀ o', CI D (p ++ [c]) o' → (∀ x ∈ o'.1, okP x) → sk (o'.1 ++ d) = sk (o.1 ++ c :: d) → sk (d.foldl (compStep D) o').1 = sk (o.1 ++ c :: d) ∧ ∀ x ∈ (d.foldl (compStep D) o').1, okP x := fun o' a b e => by
      have ih := comp_sk h d (p ++ [c]) o' ho (fun x hx => hd x (by simp [hx])) a (fun _ => by simp) b (fun x hx => h2 x (by simp [hx]))
      exact ⟨ih.1.trans e, ih.2⟩
    have hpush : sk (d.foldl (compStep D) (push D o c)).1 = sk (o.1 ++ c :: d) ∧ ∀ x ∈ (d.foldl (compStep D) (push D o c)).1, okP x :=
      next _ (hi.push h hc hoc hne) (fun x hx => by
        unfold push at hx
        rcases List.mem_append.1 hx with hx | hx
        · exact h1 x hx
        · rw [List.mem_singleton] at hx
          rw [hx]; exact h2 c (by simp)) (by unfold push; simp)
    unfold compStep
    cases hs : o.2 with
    | none => exact hpush
    | some s =>
      simp only
      split
      · rename_i hf
        cases hr : composeOf D (o.1.getD s 0) c with
        | none => exact hpush
        | some r =>
          obtain ⟨A, a, B, e, es, k1, k2, k3⟩ := hi.shape s hs
          have hr' := hr
          rw [e, es, getD_mid] at hr'
          obtain ⟨c1, c2, c3⟩ := compose_char h hr'
          refine next _ (hi.comp h hs hf hr hc hoc) (fun x hx => ?_) ?_
          · simp only [e, es, set_mid] at hx
            rcases List.mem_append.1 hx with hx | hx
            · exact h1 x (by rw [e]; simp [hx])
            · rcases List.mem_cons.1 hx with rfl | hx
              · exact .inl c1
              · exact h1 x (by rw [e]; simp [hx])
          · simp only [e, es, set_mid, List.append_assoc]
            refine sk_app _ ?_
            rw [sk_plain (r :: B) (by simp) (fun x hx => by
              rcases List.mem_cons.1 hx with rfl | hx
              · exact char_ill c1
              · exact class_ill (k1 x hx).1), sk_plain (a :: B) (by simp) (fun x hx => by
              rcases List.mem_cons.1 hx with rfl | hx
              · exact char_ill c2
              · exact class_ill (k1 x hx).1), sk_cons (char_ill c3), skC_idem]
      · exact hpush
theorem sk_comp {D : PD} (h : Good D) {l : List Int} (hl : ∀ x ∈ l, okP x) : sk (compN D l) = sk l ∧ ∀ x ∈ compN D l, okP x := by
  have := comp_sk h (decN D l) [] ([], none) (dec_ord D l) (fun x hx => dec_leaf h hx) (CI.zero D) (fun e => absurd rfl e) (fun x hx => by cases hx) (dec_ok h hl)
  exact ⟨this.1.trans (sk_dec h hl), this.2⟩
theorem dec_read {D : PD} (h : Good D) (s : Bytes) : ptsOf (textOf (decN D (ptsOf s))) = decN D (ptsOf s) :=
  clean_read _ (dec_ok h (pts_ok _ s (Nat.le_refl _))) ((clean_sk _).2 (by rw [sk_dec h (pts_ok _ s (Nat.le_refl _)), ← clean_sk]; exact pts_clean _ s (Nat.le_refl _)))
theorem comp_read {D : PD} (h : Good D) (s : Bytes) : ptsOf (textOf (compN D (ptsOf s))) = compN D (ptsOf s) :=
  clean_read _ (sk_comp h (pts_ok _ s (Nat.le_refl _))).2 ((clean_sk _).2 (by rw [(sk_comp h (pts_ok _ s (Nat.le_refl _))).1, ← clean_sk]; exact pts_clean _ s (Nat.le_refl _)))

/-! ### what is ill-formed, in its order -/
theorem ill_P0 {D : PD} (k : Int) (l : List Int) : (l.filter (P0 (classOf D) k)).filter illP = l.filter illP := by
  rw [List.filter_filter]
  refine List.filter_congr (fun x _ => ?_)
  by_cases hi : illP x = true
  · have : ¬ 0 < classOf D x := fun h => by rw [class_ill h] at hi; cases hi
    by_cases hc : isChar x = true
    · rw [char_ill hc] at hi; cases hi
    · have h0 : classOf D x = 0 := by
        unfold classOf
        rw [show isChar x = false by simpa using hc]
        simp
      rw [hi, P0_iff.2 (.inl h0)]
      rfl
  · rw [show illP x = false by simpa using hi]
    rfl
theorem ill_flat {D : PD} (h : Good D) : ∀ {l : List Int}, (∀ x ∈ l, okP x) → (flat D l).filter illP = l.filter illP
  | [], _ => rfl
  | r :: l, hl => by
    have ih := ill_flat h (l := l) (fun x hx => hl x (by simp [hx]))
    rw [flat_cons, List.filter_append, ih]
    cases hi : illP r with
    | true =>
      have hc : isChar r = false := by
        cases hc : isChar r with
        | false => rfl
        | true => rw [char_ill hc] at hi; cases hi
      rw [whole_ill h hc]
      simp [List.filter_cons, hi]
    | false =>
      have : (wholeOf D r).filter illP = [] := List.filter_eq_nil_iff.2 (fun x hx => by rw [(whole_ok h (hl r (by simp)) x hx).2, hi]; simp)
      rw [this]
      simp [List.filter_cons, hi]
theorem ill_dec {D : PD} (h : Good D) {l : List Int} (hl : ∀ x ∈ l, okP x) : (decN D l).filter illP = l.filter illP := by
  rw [← ill_P0 (D := D) 0, dec_filter, ill_P0, ill_flat h hl]
theorem ill_comp {D : PD} (h : Good D) {l : List Int} (hl : ∀ x ∈ l, okP x) : (compN D l).filter illP = l.filter illP := by
  rw [← ill_flat h (sk_comp h hl).2, ← ill_P0 (D := D) 0, ← dec_filter, dec_comp h, ill_P0, ill_dec h hl]
end Go.Proofs.YtikpkjpnehkbfaaGreatDoor.Nm
