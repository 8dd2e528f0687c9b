/- The reference's lines of class and kind: the walks. -/
import Derived.Test.YtikpkjpnehkbfaaGreatDoorRefMem
namespace Go.Proofs.YtikpkjpnehkbfaaGreatDoor.Rf
open Go Go.RowKit Go.Shelf Go.Proofs.YtikpkjpnehkbfaaGreatDoor.Sp Go.Proofs.YtikpkjpnehkbfaaGreatDoor.Pr Go.Proofs.YtikpkjpnehkbfaaGreatDoor.Rowl
set_option linter.unusedSimpArgs false

/-! ### plain: decimal numbers -/
theorem hex_digit (c : UInt8) : (isDigit c = true → hexVal c = some (c.toNat - 48) ∧ c.toNat - 48 < 10) ∧ (isDigit c = false → ∀ d, hexVal c = some d → 10 ≤ d) := by
  unfold isDigit hexVal
  constructor
  · intro h
    simp only [Bool.and_eq_true, decide_eq_true_eq] at h
    rw [if_pos h]
    have h1 : c.toNat ≤ 57 := UInt8.le_iff_toNat_le.1 h.2
    exact ⟨rfl, by omega⟩
  · intro h d hd
    simp only [Bool.and_eq_false_iff, decide_eq_false_iff_not] at h
    rw [if_neg (by rintro ⟨a, b⟩; rcases h with h | h <;> contradiction)] at hd
    split at hd
    · rename_i h1
      have h2 : 97 ≤ c.toNat := UInt8.le_iff_toNat_le.1 h1.1
      injection hd with hd; omega
    · split at hd
      · rename_i h1
        have h2 : 65 ≤ c.toNat := UInt8.le_iff_toNat_le.1 h1.1
        injection hd with hd; omega
      · cases hd
theorem numGo_yes : ∀ (l : Bytes) (n : Nat), l.all isDigit = true → numGo 10 l n = some (decGo l n)
  | [], n, _ => rfl
  | c :: l, n, h => by
    rw [List.all_cons, Bool.and_eq_true] at h
    obtain ⟨h1, h2⟩ := (hex_digit c).1 h.1
    simp only [numGo, h1, if_pos h2, decGo]
    exact numGo_yes l _ h.2
theorem numGo_not : ∀ (l : Bytes) (n : Nat), l.all isDigit = false → numGo 10 l n = none
  | [], n, h => by simp at h
  | c :: l, n, h => by
    rw [List.all_cons, Bool.and_eq_false_iff] at h
    simp only [numGo]
    cases hv : hexVal c with
    | none => rfl
    | some d =>
      simp only
      by_cases hd : d < 10
      · rw [if_pos hd]
        rcases h with h | h
        · have := (hex_digit c).2 h d hv
          omega
        · exact numGo_not l _ h
      · rw [if_neg hd]
theorem decGo_ge : ∀ (l : Bytes) (n : Nat), n * 10 ^ l.length ≤ decGo l n
  | [], n => by simp [decGo]
  | c :: l, n => by
    simp only [decGo, List.length_cons]
    refine Nat.le_trans ?_ (decGo_ge l _)
    rw [Nat.pow_succ, Nat.mul_comm (10 ^ l.length) 10, ← Nat.mul_assoc]
    exact Nat.mul_le_mul_right _ (by omega)
/-- What the reference makes of a class's number. -/
theorem class_cases (l : Bytes) : (∃ n : Nat, l.length ≤ 18 ∧ 1 ≤ l.length ∧ l.all isDigit = true ∧ decGo l 0 = n ∧ numB 10 l 1 18 = n ∧ classNo l = (if 1 < l.length ∧ l.head? = some 48 then .error 11 else if 254 < n then .error 1 else .ok n)) ∨
    (l.length ≤ 18 ∧ numB 10 l 1 18 = -1 ∧ classNo l = .error 11) ∨ (18 < l.length ∧ numB 10 l 1 18 = -1 ∧ l.all isDigit = false ∧ classNo l = .error 11) ∨
    (18 < l.length ∧ numB 10 l 1 18 = -1 ∧ l.all isDigit = true ∧ l.head? = some 48 ∧ classNo l = .error 11) ∨ (18 < l.length ∧ numB 10 l 1 18 = -1 ∧ l.all isDigit = true ∧ l.head? ≠ some 48 ∧ classNo l = .error 1) := by
  unfold numB classNo
  by_cases h18 : l.length ≤ 18
  · by_cases h1 : 1 ≤ l.length
    · have hne : l ≠ [] := fun e => by rw [e] at h1; simp at h1
      cases ha : l.all isDigit with
      | true =>
        refine .inl ⟨decGo l 0, h18, h1, rfl, rfl, by simp [h1, h18, numGo_yes l 0 ha], ?_⟩
        by_cases h48 : 1 < l.length ∧ l.head? = some 48
        · simp [h48]
        · rw [if_neg h48, if_pos ⟨rfl, hne, h48⟩]
      | false => exact .inr (.inl ⟨h18, by simp [numGo_not l 0 ha], by simp⟩)
    · have hne : l = [] := List.eq_nil_of_length_eq_zero (by omega)
      subst hne
      exact .inr (.inl ⟨h18, by simp, by simp⟩)
  · have h18' : 18 < l.length := by omega
    have hne : l ≠ [] := fun e => by rw [e] at h18; simp at h18
    cases ha : l.all isDigit with
    | false => exact .inr (.inr (.inl ⟨h18', by simp [h18], rfl, by simp⟩))
    | true =>
      by_cases h48 : l.head? = some 48
      · exact .inr (.inr (.inr (.inl ⟨h18', by simp [h18], rfl, h48, by rw [if_neg (by rintro ⟨_, _, h⟩; exact h ⟨by omega, h48⟩)]⟩)))
      · refine .inr (.inr (.inr (.inr ⟨h18', by simp [h18], rfl, h48, ?_⟩)))
        rw [if_pos ⟨rfl, hne, fun h => h48 h.2⟩, if_pos]
        cases l with
        | nil => exact absurd rfl hne
        | cons c t =>
          simp only [List.all_cons, Bool.and_eq_true] at ha
          have hc : isDigit c = true := ha.1
          unfold isDigit at hc
          simp only [Bool.and_eq_true, decide_eq_true_eq] at hc
          have h1 : 48 ≤ c.toNat := UInt8.le_iff_toNat_le.1 hc.1
          have h2 : c ≠ 48 := fun e => h48 (by rw [e]; rfl)
          have h3 : c.toNat ≠ 48 := fun e => h2 (UInt8.toNat_inj.1 e)
          simp only [decGo]
          have := decGo_ge t (10 * 0 + (c.toNat - 48))
          have hl : 18 ≤ t.length := by simp at h18'; omega
          have hp : 10 ^ 18 ≤ 10 ^ t.length := Nat.pow_le_pow_right (by omega) hl
          have hm : 1 * 10 ^ t.length ≤ (10 * 0 + (c.toNat - 48)) * 10 ^ t.length := Nat.mul_le_mul_right _ (by omega)
          have h18n : (10 : Nat) ^ 18 = 1000000000000000000 := by decide
          omega

theorem infoRowR : (Tryz.prog.info? 180).map (fun i => (i.zero, i.size, i.bytes)) = some (some (.agg #[.int .i64 0, .int .i64 0, .int .i64 0]), 3, 24) := by kernel_rfl
/-- What a line leaves behind that is taken: a row more in field i. -/
def Put (q n₀ i : Nat) (v : Nat → Value) (xs : Nat → List Value) (n : Nat → Nat) (news : List Value) (W W' : World) : Prop := ∃ v', Ref4 q n₀ W' (upd v i v') (upd xs i (xs i ++ news)) (upd n i (n i + 1)) ∧ Fr q n₀ W W'
theorem put_close {q n₀ i : Nat} {v : Nat → Value} {xs : Nat → List Value} {n : Nat → Nat} {news : List Value} {W W1 W2 : World} (h : Ref4 q n₀ W v xs n) (hi : i < 4) (hn : n₀ ≤ W.heap.size) (o : Obj) {gg cap : Nat} (hg : (W.alloc o).grownBy W2 (v i).ownBlock)
    (hown : W2.ownsRow n₀ (ty i) 3 (.slice (some ⟨gg, 0, none⟩) (n i + 1) cap) (n i + 1) (xs i ++ news)) (hat : (v i).ownBlock = some gg ∨ gg = W.heap.size + 1) (hw : W1 = W2.setCell ⟨q, i, none⟩ (.slice (some ⟨gg, 0, none⟩) (n i + 1) cap)) : Put q n₀ i v xs n news W W1 := by
  subst hw
  have hb := (Below.refl W.heap.size W).alloc (Nat.le_refl _) o
  have hx := h.later hb
  have hn' : n₀ ≤ (W.alloc o).heap.size := Nat.le_trans hn hb.size
  refine ⟨_, hx.put i hi hg hown ?_, (Fr.of hb hn).trans (Fr.put hx i hi hn' hg _)⟩
  rcases hat with e | e
  · exact .inl e.symm
  · exact .inr ⟨gg, rfl, by rw [World.size_alloc]; omega⟩
theorem Put.behind {q n₀ i : Nat} {v : Nat → Value} {xs : Nat → List Value} {n : Nat → Nat} {news : List Value} {w W W' : World} (hb : Below w.heap.size w W) (hn : n₀ ≤ w.heap.size) (h : Put q n₀ i v xs n news W W') : Put q n₀ i v xs n news w W' := by
  obtain ⟨v', h1, h2⟩ := h
  exact ⟨v', h1, (Fr.of hb hn).trans h2⟩
/-- The field's cell, behind an append to its own row. -/
theorem field_kept {q n₀ : Nat} {v : Nat → Value} {xs : Nat → List Value} {n : Nat → Nat} {W W2 : World} (h : Ref4 q n₀ W v xs n) {i : Nat} (hi : i < 4) {o : Obj} (hg : (W.alloc o).grownBy W2 (v i).ownBlock) : W2.cell? ⟨q, i, none⟩ = some (v i) ∧ W2.frozen? ⟨q, i, none⟩ = false := by
  have hq := h.ne (h.own i hi)
  have e : W2.heap[q]? = some (.cells #[v 0, v 1, v 2, v 3] 141 (0, 0)) := (hg.block q (by rw [World.size_alloc]; have := lt_of_block h.hp; omega) (fun e => hq e.symm)).trans ((Below.heap_alloc W o q (lt_of_block h.hp)).trans h.hp)
  refine ⟨?_, by simp [World.frozen?, e]⟩
  rw [cell_of_row W2 _ i _ _ (0, 0) e]
  match i, hi with
  | 0, _ => rfl
  | 1, _ => rfl
  | 2, _ => rfl
  | 3, _ => rfl
set_option maxHeartbeats 8000000 in
set_option maxRecDepth 100000 in
theorem ranged_class (q n₀ : Nat) (v : Nat → Value) (xs : Nat → List Value) (n : Nat → Nat) (w : World) (h : Ref4 q n₀ w v xs n) (hn₀ : n₀ ≤ w.heap.size) (hmany : n 0 ≤ 1048576) (b off c : Nat) (s0 s1 s2 : ByteArray) (hs1 : s1.size ≤ 1048576) (hs2 : s2.size ≤ 18)
    (c0 : w.cell? ⟨b, off, none⟩ = some (.string s0)) (c1 : w.cell? ⟨b, off + 1, none⟩ = some (.string s1)) (c2 : w.cell? ⟨b, off + 2, none⟩ = some (.string s2)) (hk : (s0.toList == [107, 105, 110, 100]) = false) (lo hi : Int) (he : spanOf s1.data.toList = .ok (lo, hi))
    (no : Nat) (hno : numB 10 s2.data.toList 1 18 = no) (h254 : no ≤ 254) (h48 : s2.size ≤ 1 ∨ (1 < s2.size ∧ ∃ h : 0 < s2.size, s2[0] ≠ 48)) :
    Calls Tryz.prog 89 #[.pointer (some ⟨q, 0, none⟩), .slice (some ⟨b, off, none⟩) 3 c] w fun e w' => e = .returned (.int .i64 0) ∧ Put q n₀ 0 v xs n (rowC ⟨lo, hi, no⟩) w w' := by
  have hen : ∀ W, Calls Tryz.prog 127 #[.string s1] W fun e w' => e = .returned (.tuple #[.int .i64 lo, .int .i64 hi, .int .i64 0]) ∧ Below W.heap.size W w' := fun W => by
    have := ends_calls s1 hs1 W
    rwa [he] at this
  have hnu : ∀ W, Calls Tryz.prog 128 #[.string s2, .int .i64 10, .int .i64 1, .int .i64 18] W fun e w' => e = .returned (.int .i64 no) ∧ Below W.heap.size W w' := fun W => by
    have := number10_calls s2 1 W
    rwa [hno] at this
  have HE := Lib.hid hen
  have HN := Lib.hid hnu
  have H := Lib.hid h
  obtain ⟨ii, hi0, hz0, hz1, hz2⟩ := info_parts infoRowR
  clear hen hnu h he hno
  have h18 : ¬ 18 < s2.size := by omega
  have b48 : s2.size ≤ 1 ∨ (1 < s2.size ∧ 0 < s2.size ∧ ∃ hp : 0 < s2.size, ((s2[0].toNat : Int) == 48) = false) := by
    rcases h48 with h48 | ⟨h1, hp, h2⟩
    · exact .inl h48
    · exact .inr ⟨h1, hp, hp, beq_eq_false_iff_ne.2 (fun e => h2 (UInt8.toNat_inj.1 (by show s2[0].toNat = 48; omega)))⟩
  clear h48
  rcases b48 with h48 | ⟨h48, hp, _, b48⟩
  all_goals
    go_enter Tryz.func89, Tryz.ntmps89
    go_wp2_with (first
      | (go_at_call 127; refine (HE.out _).mono ?_; rintro e w1 ⟨rfl, hb1⟩; have c01 := cell_later hb1 c0; have c21 := cell_later hb1 c2)
      | (go_at_call 128; refine (HN.out _).mono ?_; rintro e w2 ⟨rfl, hb2⟩; have c22 := cell_later hb2 c21; have h2 := (H.out.later hb1).later hb2; have HB2 := Lib.hid (hb1.trans (hb2.mono hb1.size)); have q0 : w2.cell? ⟨q, 0, none⟩ = some (v 0) := (by rw [cell_of_row w2 _ 0 _ _ (0, 0) h2.hp]; rfl); have HO := Lib.hid (h2.own 0 (by decide)); have H2 := Lib.hid h2; clear h2)
      | (at_builtin; refine wpList_append_lies _ (by rfl) _ _ _ (by rfl) n₀ 180 ii _ 3 24 Tryz.underlying138 hi0 hz0 hz1 hz2 rfl (by omega) (v 0) (n 0) (xs 0) (by rfl) (World.ownsRow.alloc HO.out _) ⟨w2.heap.size, 0, none⟩ 1 1 (rowC ⟨lo, hi, no⟩) (by rfl) (by rfl) (World.news_of_block (cs := #[.int .i64 lo, .int .i64 hi, .int .i64 no]) (t := 180) (fr := (0, 0)) (heap_alloc_new w2 _)) (by simp [rowC, Value.oneCell']) (by omega) (by simp only [maxLen]; omega) (by omega) (by have := HB2.out.size; rw [World.size_alloc]; omega) (w2.heap.size + 1) (by simp) ?_; intro gg cap w4 hown hgrow hat hgl; obtain ⟨q1, q2⟩ := field_kept H2.out (i := 0) (by decide) hgrow; have HF := Lib.hid (put_close H2.out (i := 0) (by decide) (Nat.le_trans hn₀ HB2.out.size) _ hgrow hown hat rfl); clear hown hgrow hat hgl))
    go_ret
    exact ⟨rfl, HF.out.behind HB2.out hn₀⟩
/-! ### kind -/
def KindsAt (W : World) : Prop := ∀ k, k < 8 → ∃ nb : ByteArray, W.cell? ⟨0, k, none⟩ = some (.string nb) ∧ kindNames[k]? = some nb.data.toList
theorem KindsAt.on {W W' : World} (h : KindsAt W) (hb : Below W.heap.size W W') : KindsAt W' := fun k hk => by
  obtain ⟨nb, h1, h2⟩ := h k hk
  exact ⟨nb, cell_later hb h1, h2⟩
theorem str_eq {a b : ByteArray} : a.data.toList = b.data.toList ↔ a.toList = b.toList := by rw [Lib.toList_data, Lib.toList_data]
set_option maxHeartbeats 8000000 in
set_option maxRecDepth 100000 in
theorem ranged_kind (q n₀ : Nat) (v : Nat → Value) (xs : Nat → List Value) (n : Nat → Nat) (w : World) (h : Ref4 q n₀ w v xs n) (hn₀ : n₀ ≤ w.heap.size) (hmany : n 1 ≤ 1048576) (b off c : Nat) (s0 s1 s2 : ByteArray) (hs1 : s1.size ≤ 1048576)
    (c0 : w.cell? ⟨b, off, none⟩ = some (.string s0)) (c1 : w.cell? ⟨b, off + 1, none⟩ = some (.string s1)) (c2 : w.cell? ⟨b, off + 2, none⟩ = some (.string s2)) (hk : (s0.toList == [107, 105, 110, 100]) = true) (lo hi : Int) (he : spanOf s1.data.toList = .ok (lo, hi))
    (KT : KindsAt w) (o : Option Nat) (ho : kindNames.idxOf? s2.data.toList = o) :
    Calls Tryz.prog 89 #[.pointer (some ⟨q, 0, none⟩), .slice (some ⟨b, off, none⟩) 3 c] w fun e w' => (∃ kk, o = some kk ∧ e = .returned (.int .i64 0) ∧ Put q n₀ 1 v xs n (rowC ⟨lo, hi, kk⟩) w w') ∨ (o = none ∧ e = .returned (.int .i64 12) ∧ Below w.heap.size w w') := by
  have hen : ∀ W, Calls Tryz.prog 127 #[.string s1] W fun e w' => e = .returned (.tuple #[.int .i64 lo, .int .i64 hi, .int .i64 0]) ∧ Below W.heap.size W w' := fun W => by
    have := ends_calls s1 hs1 W
    rwa [he] at this
  have HE := Lib.hid hen
  have H := Lib.hid h
  have HK := Lib.hid KT
  have HO := Lib.hid ho
  obtain ⟨ii, hi0, hz0, hz1, hz2⟩ := info_parts infoRowR
  clear hen h he KT ho
  go_enter Tryz.func89, Tryz.ntmps89
  go_wp2_with (go_at_call 127; refine (HE.out _).mono ?_; rintro e w1 ⟨rfl, hb1⟩; have c01 := cell_later hb1 c0; have HB1 := Lib.hid hb1; clear hb1)
  go_loopw [8] (fun vj wr => ∃ j : Nat, vj = .int .i64 j ∧ j ≤ 8 ∧ Hid (∀ i, i < j → kindNames[i]? ≠ some s2.data.toList) ∧ Hid (Below w.heap.size w wr)) (fun vj _ => 8 - (intOf vj).toNat)
  case atStart => exact ⟨0, rfl, by omega, Lib.hid (fun i hi => by omega), HB1⟩
  case round =>
    obtain ⟨j, rfl, hj, HI, HR⟩ := hrel
    by_cases hj8 : j < 8
    · obtain ⟨nb, hnb, hname⟩ := HK.out j hj8
      have c2r := cell_later HR.out c2
      have nbr := cell_later HR.out hnb
      have HNM := Lib.hid hname
      have f1 : (0 : Int) ≤ (j : Int) := by omega
      have f2 : (j : Int) < 8 := by omega
      clear hname
      by_cases heq : s2.toList = nb.toList
      · have hq : (s2.toList == nb.toList) = true := beq_iff_eq.2 heq
        have HJ : Hid (o = some j) := Lib.hid (by
          rw [← HO.out, List.idxOf?_eq_some_iff]
          refine ⟨hj8, ?_, fun i hi => ?_⟩
          · have := HNM.out
            rw [List.getElem?_eq_getElem hj8] at this
            injection this with this
            rw [this]
            exact (str_eq.2 heq).symm
          · have h1 := HI.out i hi
            intro e
            exact h1 (by rw [List.getElem?_eq_getElem (show i < kindNames.length by show i < 8; omega), e]))
        have h2 := H.out.later HR.out.drew
        have q0 : wr.cell? ⟨q, 1, none⟩ = some (v 1) := (by rw [cell_of_row wr _ 1 _ _ (0, 0) h2.hp]; rfl)
        have HOW := Lib.hid (h2.own 1 (by decide))
        have H2 := Lib.hid h2
        clear heq h2 hnb
        go_wp2
        go_region
        go_wp2_with (at_builtin; refine wpList_append_lies _ (by rfl) _ _ _ (by rfl) n₀ 180 ii _ 3 24 Tryz.underlying138 hi0 hz0 hz1 hz2 rfl (by omega) (v 1) (n 1) (xs 1) (by rfl) (World.ownsRow.alloc HOW.out _) ⟨wr.heap.size, 0, none⟩ 1 1 (rowC ⟨lo, hi, j⟩) (by rfl) (by rfl) (World.news_of_block (cs := #[.int .i64 lo, .int .i64 hi, .int .i64 j]) (t := 180) (fr := (0, 0)) (heap_alloc_new wr.drew _)) (by simp [rowC, Value.oneCell']) (by omega) (by simp only [maxLen]; omega) (by omega) (by have := HR.out.size; show _ ≤ (wr.alloc _).heap.size; rw [World.size_alloc]; omega) (wr.heap.size + 1) (by simp) ?_; intro gg cap w4 hown hgrow hat hgl; obtain ⟨q1, q2⟩ := field_kept H2.out (i := 1) (by decide) hgrow; have HF := Lib.hid (put_close H2.out (i := 1) (by decide) (Nat.le_trans hn₀ HR.out.size) _ hgrow hown hat rfl); clear hown hgrow hat hgl)
        go_ret
        exact .inl ⟨j, HJ.out, rfl, HF.out.behind HR.out.drew hn₀⟩
      · have hq : (s2.toList == nb.toList) = false := beq_eq_false_iff_ne.2 heq
        have HI2 : Hid (∀ i, i < j + 1 → kindNames[i]? ≠ some s2.data.toList) := Lib.hid (fun i hi => by
          by_cases hij : i < j
          · exact HI.out i hij
          · have : i = j := by omega
            subst this
            rw [HNM.out]
            intro e
            injection e with e
            exact heq (str_eq.1 e.symm))
        clear heq
        go_wp2
        go_region
        go_wp2
        refine ⟨⟨j + 1, by go_num, by omega, HI2, Lib.hid HR.out.drew⟩, ?_⟩
        simp [intOf]
        omega
    · have hje : j = 8 := by omega
      subst hje
      have HJ : Hid (o = none) := Lib.hid (by
        rw [← HO.out, List.idxOf?_eq_none_iff]
        intro hm
        obtain ⟨i, hi, e⟩ := List.mem_iff_getElem.1 hm
        exact HI.out i hi (by rw [List.getElem?_eq_getElem hi, e]))
      go_wp2
      go_ret
      exact .inr ⟨HJ.out, rfl, HR.out⟩
/-! ### what is wrong -/
theorem ranged_few (q : Nat) (a : Option Addr) (m c : Nat) (w : World) (h : m < 3) : Calls Tryz.prog 89 #[.pointer (some ⟨q, 0, none⟩), .slice a m c] w fun e w' => e = .returned (.int .i64 2) ∧ Below w.heap.size w w' := by
  have h' : (m : Int) < 3 := by omega
  go_enter Tryz.func89, Tryz.ntmps89
  go_wp2
  go_ret
  exact ⟨rfl, Below.refl _ _⟩
set_option maxRecDepth 100000 in
theorem ranged_lots (q : Nat) (a : Option Addr) (m c : Nat) (w : World) (h : 3 < m) : Calls Tryz.prog 89 #[.pointer (some ⟨q, 0, none⟩), .slice a m c] w fun e w' => e = .returned (.int .i64 3) ∧ Below w.heap.size w w' := by
  have h1 : ¬ (m : Int) < 3 := by omega
  have h2 : (3 : Int) < (m : Int) := by omega
  go_enter Tryz.func89, Tryz.ntmps89
  go_wp2
  go_ret
  exact ⟨rfl, Below.refl _ _⟩
theorem span_err {l : Bytes} {k : Int} (h : spanOf l = .error k) : 0 < k := by
  unfold spanOf at h
  simp only at h
  split at h
  · split at h
    · split at h
      · simp only [Except.error.injEq] at h; omega
      · cases h
    · simp only [Except.error.injEq] at h; omega
  · simp only [Except.error.injEq] at h; omega
set_option maxRecDepth 100000 in
theorem ranged_span (q : Nat) (w : World) (b off c : Nat) (s1 : ByteArray) (hs1 : s1.size ≤ 1048576) (c1 : w.cell? ⟨b, off + 1, none⟩ = some (.string s1)) (k : Int) (he : spanOf s1.data.toList = .error k) :
    Calls Tryz.prog 89 #[.pointer (some ⟨q, 0, none⟩), .slice (some ⟨b, off, none⟩) 3 c] w fun e w' => e = .returned (.int .i64 k) ∧ Below w.heap.size w w' := by
  have hen : ∀ W, Calls Tryz.prog 127 #[.string s1] W fun e w' => e = .returned (.tuple #[.int .i64 0, .int .i64 0, .int .i64 k]) ∧ Below W.heap.size W w' := fun W => by
    have := ends_calls s1 hs1 W
    rwa [he] at this
  have HE := Lib.hid hen
  have hk := span_err he
  have hkn : (k != 0) = true := bne_iff_ne.2 (by omega)
  clear hen he
  go_enter Tryz.func89, Tryz.ntmps89
  go_wp2_with (go_at_call 127; refine (HE.out _).mono ?_; rintro e w1 ⟨rfl, hb1⟩)
  go_ret
  exact ⟨rfl, hb1⟩
theorem head_at (s : ByteArray) (h : 0 < s.size) : s.data.toList.head? = some s[0] := by
  have hk : 0 < s.data.toList.length := by rw [← Lib.size_eq]; exact h
  rw [List.head?_eq_getElem?, List.getElem?_eq_getElem hk]
  rfl
theorem all_take (s : ByteArray) (k : Nat) (h : k < s.size) : (s.data.toList.take (k + 1)).all isDigit = ((s.data.toList.take k).all isDigit && isDigit s[k]) := by
  rw [take_at' s k h, List.all_append]
  simp
def Digs (l : Bytes) : Prop := l.all isDigit = true
theorem mem_at (s : ByteArray) (j : Nat) (h : j < s.size) : s[j] ∈ s.data.toList := by
  have hk : j < s.data.toList.length := by rw [← Lib.size_eq]; exact h
  exact List.getElem_mem hk
set_option maxHeartbeats 8000000 in
set_option maxRecDepth 100000 in
theorem ranged_number (q : Nat) (w : World) (b off c : Nat) (s0 s1 s2 : ByteArray) (hs1 : s1.size ≤ 1048576) (hs2 : s2.size ≤ 1048576)
    (c0 : w.cell? ⟨b, off, none⟩ = some (.string s0)) (c1 : w.cell? ⟨b, off + 1, none⟩ = some (.string s1)) (c2 : w.cell? ⟨b, off + 2, none⟩ = some (.string s2)) (hk : (s0.toList == [107, 105, 110, 100]) = false) (lo hi : Int) (he : spanOf s1.data.toList = .ok (lo, hi))
    (k : Int) (hno : classNo s2.data.toList = .error k) :
    Calls Tryz.prog 89 #[.pointer (some ⟨q, 0, none⟩), .slice (some ⟨b, off, none⟩) 3 c] w fun e w' => e = .returned (.int .i64 k) ∧ Below w.heap.size w w' := by
  have hen : ∀ W, Calls Tryz.prog 127 #[.string s1] W fun e w' => e = .returned (.tuple #[.int .i64 lo, .int .i64 hi, .int .i64 0]) ∧ Below W.heap.size W w' := fun W => by
    have := ends_calls s1 hs1 W
    rwa [he] at this
  have HE := Lib.hid hen
  have hcl := class_cases s2.data.toList
  rw [← Lib.size_eq] at hcl
  obtain ⟨no, hnu⟩ : ∃ no, numB 10 s2.data.toList 1 18 = no := ⟨_, rfl⟩
  have HN : Hid (∀ W, Calls Tryz.prog 128 #[.string s2, .int .i64 10, .int .i64 1, .int .i64 18] W fun e w' => e = .returned (.int .i64 no) ∧ Below W.heap.size W w') := Lib.hid fun W => by
    have := number10_calls s2 1 W
    rwa [hnu] at this
  rw [hnu, hno] at hcl
  clear hen he hnu hno
  rcases hcl with ⟨m, z1, z2, z3, z4, z5, z6⟩ | ⟨z1, z2, z3⟩ | ⟨z1, z2, z3, z4⟩ | ⟨z1, z2, z3, z4, z5⟩ | ⟨z1, z2, z3, z4, z5⟩
  · clear z3 z4
    subst z5
    have hp : 0 < s2.size := by omega
    rw [head_at s2 hp] at z6
    have hcase : (k = 11 ∧ 1 < s2.size ∧ ((s2[0].toNat : Int) == 48) = true) ∨ (k = 1 ∧ 254 < m ∧ (s2.size ≤ 1 ∨ (1 < s2.size ∧ ((s2[0].toNat : Int) == 48) = false))) := by
      by_cases h48 : 1 < s2.size ∧ some s2[0] = some 48
      · rw [if_pos h48] at z6
        injection z6 with z6
        refine .inl ⟨z6, h48.1, ?_⟩
        have := h48.2
        injection this with this
        rw [this]; rfl
      · rw [if_neg h48] at z6
        by_cases h254 : 254 < m
        · rw [if_pos h254] at z6
          injection z6 with z6
          refine .inr ⟨z6, h254, ?_⟩
          by_cases h1 : 1 < s2.size
          · exact .inr ⟨h1, beq_eq_false_iff_ne.2 (fun e => h48 ⟨h1, by rw [UInt8.toNat_inj.1 (show s2[0].toNat = (48 : UInt8).toNat by show s2[0].toNat = 48; omega)]⟩)⟩
          · exact .inl (by omega)
        · rw [if_neg h254] at z6; cases z6
    clear z6
    have h18 : ¬ 18 < s2.size := by omega
    rcases hcase with ⟨rfl, h1, b48⟩ | ⟨rfl, h254, h1 | ⟨h1, b48⟩⟩
    all_goals
      go_enter Tryz.func89, Tryz.ntmps89
      go_wp2_with (first
        | (go_at_call 127; refine (HE.out _).mono ?_; rintro e w1 ⟨rfl, hb1⟩; have c01 := cell_later hb1 c0; have c21 := cell_later hb1 c2)
        | (go_at_call 128; refine (HN.out _).mono ?_; rintro e w2 ⟨rfl, hb2⟩; have c22 := cell_later hb2 c21; have HB2 := Lib.hid (hb1.trans (hb2.mono hb1.size))))
      go_ret
      exact ⟨rfl, HB2.out⟩
  · subst z2
    injection z3 with z3
    subst z3
    have h18 : ¬ 18 < s2.size := by omega
    go_enter Tryz.func89, Tryz.ntmps89
    go_wp2_with (first
      | (go_at_call 127; refine (HE.out _).mono ?_; rintro e w1 ⟨rfl, hb1⟩; have c01 := cell_later hb1 c0; have c21 := cell_later hb1 c2)
      | (go_at_call 128; refine (HN.out _).mono ?_; rintro e w2 ⟨rfl, hb2⟩; have c22 := cell_later hb2 c21; have HB2 := Lib.hid (hb1.trans (hb2.mono hb1.size))))
    go_ret
    exact ⟨rfl, HB2.out⟩
  · subst z2
    injection z4 with z4
    subst z4
    have HAL := Lib.hid z3
    clear z3
    go_enter Tryz.func89, Tryz.ntmps89
    go_wp2_with (first
      | (go_at_call 127; refine (HE.out _).mono ?_; rintro e w1 ⟨rfl, hb1⟩; have c01 := cell_later hb1 c0; have c21 := cell_later hb1 c2)
      | (go_at_call 128; refine (HN.out _).mono ?_; rintro e w2 ⟨rfl, hb2⟩; have c22 := cell_later hb2 c21; have HB2 := Lib.hid (hb1.trans (hb2.mono hb1.size))))
    go_loop [10] (fun vi => ∃ j : Nat, vi = .int .i64 j ∧ j ≤ s2.size ∧ Hid (Digs (s2.data.toList.take j))) (fun vi => s2.size - (intOf vi).toNat)
    case atStart => exact ⟨0, rfl, by omega, Lib.hid rfl⟩
    case round =>
      obtain ⟨j, rfl, hj, HI⟩ := hrel
      by_cases hlt : j < s2.size
      · by_cases hd : isDigit s2[j] = true
        · have hd1 : (48 : Int) ≤ (s2[j].toNat : Int) ∧ (s2[j].toNat : Int) ≤ 57 := by
            unfold isDigit at hd
            simp only [Bool.and_eq_true, decide_eq_true_eq] at hd
            have a1 : 48 ≤ s2[j].toNat := UInt8.le_iff_toNat_le.1 hd.1
            have a2 : s2[j].toNat ≤ 57 := UInt8.le_iff_toNat_le.1 hd.2
            omega
          obtain ⟨hd2, hd3⟩ := hd1
          have HI2 : Hid (Digs (s2.data.toList.take (j + 1))) := Lib.hid (by unfold Digs; rw [all_take s2 j hlt, HI.out, hd]; rfl)
          clear hd
          go_wp2
          go_round
          case rel => exact ⟨j + 1, by go_num, by omega, HI2⟩
          case measure => simp [intOf]; omega
        · have hd' : isDigit s2[j] = false := by simpa using hd
          have hd1 : (s2[j].toNat : Int) < 48 ∨ (48 ≤ (s2[j].toNat : Int) ∧ 57 < (s2[j].toNat : Int)) := by
            unfold isDigit at hd'
            simp only [Bool.and_eq_false_iff, decide_eq_false_iff_not, UInt8.le_iff_toNat_le] at hd'
            have e1 : (48 : UInt8).toNat = 48 := rfl
            have e2 : (57 : UInt8).toNat = 57 := rfl
            omega
          clear hd hd'
          rcases hd1 with hd1 | ⟨hd0, hd1⟩
          all_goals
            go_wp2
            go_ret
            exact ⟨rfl, HB2.out⟩
      · have hje : j = s2.size := by omega
        subst hje
        exact absurd HI.out (by unfold Digs; rw [List.take_of_length_le (by rw [Lib.size_eq]; exact Nat.le_refl _), HAL.out]; decide)
  · subst z2
    injection z5 with z5
    subst z5
    have HAL := Lib.hid z3
    have hp : 0 < s2.size := by omega
    have h1 : 1 < s2.size := by omega
    rw [head_at s2 hp] at z4
    injection z4 with z4
    have b48 : ((s2[0].toNat : Int) == 48) = true := by rw [z4]; rfl
    clear z3 z4
    go_enter Tryz.func89, Tryz.ntmps89
    go_wp2_with (first
      | (go_at_call 127; refine (HE.out _).mono ?_; rintro e w1 ⟨rfl, hb1⟩; have c01 := cell_later hb1 c0; have c21 := cell_later hb1 c2)
      | (go_at_call 128; refine (HN.out _).mono ?_; rintro e w2 ⟨rfl, hb2⟩; have c22 := cell_later hb2 c21; have HB2 := Lib.hid (hb1.trans (hb2.mono hb1.size))))
    go_loop [10] (fun vi => ∃ j : Nat, vi = .int .i64 j ∧ j ≤ s2.size ∧ Hid (Digs (s2.data.toList.take j))) (fun vi => s2.size - (intOf vi).toNat)
    case atStart => exact ⟨0, rfl, by omega, Lib.hid rfl⟩
    case round =>
      obtain ⟨j, rfl, hj, HI⟩ := hrel
      by_cases hlt : j < s2.size
      · by_cases hd : isDigit s2[j] = true
        · have hd1 : (48 : Int) ≤ (s2[j].toNat : Int) ∧ (s2[j].toNat : Int) ≤ 57 := by
            unfold isDigit at hd
            simp only [Bool.and_eq_true, decide_eq_true_eq] at hd
            have a1 : 48 ≤ s2[j].toNat := UInt8.le_iff_toNat_le.1 hd.1
            have a2 : s2[j].toNat ≤ 57 := UInt8.le_iff_toNat_le.1 hd.2
            omega
          obtain ⟨hd2, hd3⟩ := hd1
          have HI2 : Hid (Digs (s2.data.toList.take (j + 1))) := Lib.hid (by unfold Digs; rw [all_take s2 j hlt, HI.out, hd]; rfl)
          clear hd
          go_wp2
          go_round
          case rel => exact ⟨j + 1, by go_num, by omega, HI2⟩
          case measure => simp [intOf]; omega
        · exact absurd (List.all_eq_true.1 HAL.out s2[j] (mem_at s2 j hlt)) hd
      · have hje : j = s2.size := by omega
        subst hje
        go_wp2
        go_ret
        exact ⟨rfl, HB2.out⟩
  · subst z2
    injection z5 with z5
    subst z5
    have HAL := Lib.hid z3
    have hp : 0 < s2.size := by omega
    have h1 : 1 < s2.size := by omega
    rw [head_at s2 hp] at z4
    have b48 : ((s2[0].toNat : Int) == 48) = false := beq_eq_false_iff_ne.2 (fun e => z4 (by rw [UInt8.toNat_inj.1 (show s2[0].toNat = (48 : UInt8).toNat by show s2[0].toNat = 48; omega)]))
    clear z3 z4
    go_enter Tryz.func89, Tryz.ntmps89
    go_wp2_with (first
      | (go_at_call 127; refine (HE.out _).mono ?_; rintro e w1 ⟨rfl, hb1⟩; have c01 := cell_later hb1 c0; have c21 := cell_later hb1 c2)
      | (go_at_call 128; refine (HN.out _).mono ?_; rintro e w2 ⟨rfl, hb2⟩; have c22 := cell_later hb2 c21; have HB2 := Lib.hid (hb1.trans (hb2.mono hb1.size))))
    go_loop [10] (fun vi => ∃ j : Nat, vi = .int .i64 j ∧ j ≤ s2.size ∧ Hid (Digs (s2.data.toList.take j))) (fun vi => s2.size - (intOf vi).toNat)
    case atStart => exact ⟨0, rfl, by omega, Lib.hid rfl⟩
    case round =>
      obtain ⟨j, rfl, hj, HI⟩ := hrel
      by_cases hlt : j < s2.size
      · by_cases hd : isDigit s2[j] = true
        · have hd1 : (48 : Int) ≤ (s2[j].toNat : Int) ∧ (s2[j].toNat : Int) ≤ 57 := by
            unfold isDigit at hd
            simp only [Bool.and_eq_true, decide_eq_true_eq] at hd
            have a1 : 48 ≤ s2[j].toNat := UInt8.le_iff_toNat_le.1 hd.1
            have a2 : s2[j].toNat ≤ 57 := UInt8.le_iff_toNat_le.1 hd.2
            omega
          obtain ⟨hd2, hd3⟩ := hd1
          have HI2 : Hid (Digs (s2.data.toList.take (j + 1))) := Lib.hid (by unfold Digs; rw [all_take s2 j hlt, HI.out, hd]; rfl)
          clear hd
          go_wp2
          go_round
          case rel => exact ⟨j + 1, by go_num, by omega, HI2⟩
          case measure => simp [intOf]; omega
        · exact absurd (List.all_eq_true.1 HAL.out s2[j] (mem_at s2 j hlt)) hd
      · have hje : j = s2.size := by omega
        subst hje
        go_wp2
        go_ret
        exact ⟨rfl, HB2.out⟩
end Go.Proofs.YtikpkjpnehkbfaaGreatDoor.Rf
