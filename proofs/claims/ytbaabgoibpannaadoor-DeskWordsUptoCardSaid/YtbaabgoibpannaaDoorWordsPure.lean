/- The words of a line, over numbers and lists alone: what desk.Words comes to and what the document says are the same, for each line of at most 2^21 bytes. -/
import Derived.Test.YtbaabgoibpannaaDoorWordsWalk
import Derived.Test.YtbaabgoibpannaaDoorPDeskWordsx5
import Derived.Lib.Strings
namespace Go.Proofs.YtbaabgoibpannaaDoor.PDeskWords
open Go.RowKit Go.Proofs.YtbaabgoibpannaaDoorW.PrintWords Go.Proofs.YtbaabgoibpannaaDoorW.PrintLast Go.Proofs.YtbaabgoibpannaaDoorW.PrintMore
set_option linter.unusedVariables false
set_option linter.unusedSimpArgs false

theorem w64 (n : Int) (h0 : 0 ≤ n) (h1 : n < 9223372036854775808) : wrap64 n = n := by unfold wrap64; omega
theorem blank_same (c : Int) : ∃ b, desk_isBlank.f c = some b ∧ glossaryref32_blank.f c = some b := by
  unfold desk_isBlank.f glossaryref32_blank.f
  by_cases h1 : c = 32
  · exact ⟨true, by rw [if_pos h1], by rw [if_pos h1]⟩
  · by_cases h2 : c = 9
    · exact ⟨true, by rw [if_neg h1, if_pos h2], by rw [if_neg h1, if_pos h2]⟩
    · exact ⟨c == 13, by rw [if_neg h1, if_neg h2], by rw [if_neg h1, if_neg h2]⟩
theorem hex_same (c : Int) (h0 : 0 ≤ c) (h1 : c ≤ 255) : ∃ v : Int, 0 ≤ v ∧ v ≤ 16 ∧ Ev (fun k => desk_hex.f k c) v ∧ Ev (fun k => glossaryref32_hex.f k c) v := by
  have d1 : ∀ (c v : Int), (∀ k, desk_hex.f (k + 2) c = some v) → Ev (fun k => desk_hex.f k c) v := fun c v h => ⟨2, fun k hk => by
    obtain ⟨k, rfl⟩ : ∃ m, k = m + 2 := ⟨k - 2, by omega⟩
    exact h k⟩
  have r1 : ∀ (c v : Int), (∀ k, glossaryref32_hex.f (k + 2) c = some v) → Ev (fun k => glossaryref32_hex.f k c) v := fun c v h => ⟨2, fun k hk => by
    obtain ⟨k, rfl⟩ : ∃ m, k = m + 2 := ⟨k - 2, by omega⟩
    exact h k⟩
  by_cases a1 : 48 ≤ c
  · by_cases a2 : c ≤ 57
    · refine ⟨c - 48, by omega, by omega, d1 _ _ fun k => ?_, r1 _ _ fun k => ?_⟩
      · unfold desk_hex.f
        rw [if_pos a1]
        simp only [desk_hex.j0]
        rw [if_pos (decide_eq_true a2)]
        congr 1; omega
      · unfold glossaryref32_hex.f
        rw [if_pos a1]
        simp only [glossaryref32_hex.j0]
        rw [if_pos (decide_eq_true a2)]
        congr 1
        rw [w64 c (by omega) (by omega), w64 _ (by omega) (by omega)]
    · have n2 : ¬ decide (c ≤ 57) = true := by simpa using a2
      by_cases a3 : 97 ≤ c
      · by_cases a4 : c ≤ 102
        · refine ⟨c - 87, by omega, by omega, d1 _ _ fun k => ?_, r1 _ _ fun k => ?_⟩
          · unfold desk_hex.f
            rw [if_pos a1]
            simp only [desk_hex.j0]
            rw [if_neg n2, if_pos a3]
            simp only [desk_hex.j1]
            rw [if_pos (decide_eq_true a4)]
            congr 1; omega
          · unfold glossaryref32_hex.f
            rw [if_pos a1]
            simp only [glossaryref32_hex.j0]
            rw [if_neg n2, if_pos a3]
            simp only [glossaryref32_hex.j1]
            rw [if_pos (decide_eq_true a4)]
            congr 1
            rw [w64 c (by omega) (by omega), w64 _ (by omega) (by omega)]
        · have n4 : ¬ decide (c ≤ 102) = true := by simpa using a4
          refine ⟨16, by omega, by omega, d1 _ _ fun k => ?_, r1 _ _ fun k => ?_⟩
          · unfold desk_hex.f
            rw [if_pos a1]
            simp only [desk_hex.j0]
            rw [if_neg n2, if_pos a3]
            simp only [desk_hex.j1]
            rw [if_neg n4, if_pos (by omega), if_neg (by omega)]
          · unfold glossaryref32_hex.f
            rw [if_pos a1]
            simp only [glossaryref32_hex.j0]
            rw [if_neg n2, if_pos a3]
            simp only [glossaryref32_hex.j1]
            rw [if_neg n4, if_pos (by omega), if_neg (by omega)]
      · by_cases a5 : 65 ≤ c
        · by_cases a6 : c ≤ 70
          · refine ⟨c - 55, by omega, by omega, d1 _ _ fun k => ?_, r1 _ _ fun k => ?_⟩
            · unfold desk_hex.f
              rw [if_pos a1]
              simp only [desk_hex.j0]
              rw [if_neg n2, if_neg a3]
              simp only [desk_hex.j1]
              rw [if_neg (by simp), if_pos a5, if_pos a6]
              congr 1; omega
            · unfold glossaryref32_hex.f
              rw [if_pos a1]
              simp only [glossaryref32_hex.j0]
              rw [if_neg n2, if_neg a3]
              simp only [glossaryref32_hex.j1]
              rw [if_neg (by simp), if_pos a5, if_pos a6]
              congr 1
              rw [w64 c (by omega) (by omega), w64 _ (by omega) (by omega)]
          · refine ⟨16, by omega, by omega, d1 _ _ fun k => ?_, r1 _ _ fun k => ?_⟩
            · unfold desk_hex.f
              rw [if_pos a1]
              simp only [desk_hex.j0]
              rw [if_neg n2, if_neg a3]
              simp only [desk_hex.j1]
              rw [if_neg (by simp), if_pos a5, if_neg a6]
            · unfold glossaryref32_hex.f
              rw [if_pos a1]
              simp only [glossaryref32_hex.j0]
              rw [if_neg n2, if_neg a3]
              simp only [glossaryref32_hex.j1]
              rw [if_neg (by simp), if_pos a5, if_neg a6]
        · refine ⟨16, by omega, by omega, d1 _ _ fun k => ?_, r1 _ _ fun k => ?_⟩
          · unfold desk_hex.f
            rw [if_pos a1]
            simp only [desk_hex.j0]
            rw [if_neg n2, if_neg a3]
            simp only [desk_hex.j1]
            rw [if_neg (by simp), if_neg a5]
          · unfold glossaryref32_hex.f
            rw [if_pos a1]
            simp only [glossaryref32_hex.j0]
            rw [if_neg n2, if_neg a3]
            simp only [glossaryref32_hex.j1]
            rw [if_neg (by simp), if_neg a5]
  · refine ⟨16, by omega, by omega, d1 _ _ fun k => ?_, r1 _ _ fun k => ?_⟩
    · unfold desk_hex.f
      rw [if_neg (by omega)]
      simp only [desk_hex.j0]
      rw [if_neg (by simp), if_neg (by omega)]
      simp only [desk_hex.j1]
      rw [if_neg (by simp), if_neg (by omega)]
    · unfold glossaryref32_hex.f
      rw [if_neg (by omega)]
      simp only [glossaryref32_hex.j0]
      rw [if_neg (by simp), if_neg (by omega)]
      simp only [glossaryref32_hex.j1]
      rw [if_neg (by simp), if_neg (by omega)]
theorem or_fin : ∀ a b : Fin 16, Go.bits .or .u8 (((a.val : Int) * 16) % 256) (b.val : Int) = 16 * (a.val : Int) + b.val := by decide +kernel
theorem or_at (a b : Int) (h0 : 0 ≤ a) (h1 : a < 16) (h2 : 0 ≤ b) (h3 : b < 16) : Go.bits .or .u8 ((a * 16) % 256) b = 16 * a + b := by
  have h := or_fin ⟨a.toNat, by omega⟩ ⟨b.toNat, by omega⟩
  simp only at h
  rw [show ((a.toNat : Nat) : Int) = a from by omega, show ((b.toNat : Nat) : Int) = b from by omega] at h
  exact h

/-! ### what is quoted -/
theorem size_ext (s : ByteArray) (i : Nat) : (s.extract i s.size).size = s.size - i := by
  rw [ByteArray.size_extract]; omega
theorem bt_list (s : ByteArray) (q : Nat) : bt s (q : Int) = ((s.data.toList[q]?).map fun b => (b.toNat : Int)).getD 0 := by
  unfold bt
  rw [Int.toNat_natCast, Array.getElem?_toList]
  by_cases h : q < s.size
  · rw [dif_pos h, Array.getElem?_eq_getElem (by exact h)]; rfl
  · rw [dif_neg h, Array.getElem?_eq_none (by exact Nat.le_of_not_lt h)]; rfl
theorem bt_ext (s : ByteArray) (i q : Nat) : bt (s.extract i s.size) (q : Int) = bt s ((i + q : Nat) : Int) := by
  rw [bt_list, bt_list, Lib.extract_data, List.getElem?_take, List.getElem?_drop]
  split
  · rfl
  · rename_i h
    rw [List.getElem?_eq_none (by rw [data_length]; omega)]
theorem empty_str : (⟨#[]⟩ : ByteArray) = ⟨#[]⟩ := rfl

/-- Both go on alike from place q of the line (what was quoted began at i), acc read so far. -/
def Alike (s : ByteArray) (i : Nat) (acc : List Int) (q : Nat) : Prop :=
  (∃ (b : ByteArray) (e : Nat), q < e ∧ e ≤ s.size ∧ Ev (fun k => glossaryref32_quoted.l0 k s acc (q : Int)) (b, (e : Int)) ∧ Ev (fun k => desk_unquote.l0 k (s.extract i s.size) acc ((q - i : Nat) : Int)) (b, ((e - i : Nat) : Int), true)) ∨
  (Ev (fun k => glossaryref32_quoted.l0 k s acc (q : Int)) (⟨#[]⟩, -1) ∧ Ev (fun k => desk_unquote.l0 k (s.extract i s.size) acc ((q - i : Nat) : Int)) (⟨#[]⟩, 0, false))
theorem Alike.back {s : ByteArray} {i : Nat} {acc acc' : List Int} {q q' : Nat} (h : Alike s i acc' q') (hq : q ≤ q')
    (h1 : ∀ r, Ev (fun k => glossaryref32_quoted.l0 k s acc' (q' : Int)) r → Ev (fun k => glossaryref32_quoted.l0 k s acc (q : Int)) r)
    (h2 : ∀ r, Ev (fun k => desk_unquote.l0 k (s.extract i s.size) acc' ((q' - i : Nat) : Int)) r → Ev (fun k => desk_unquote.l0 k (s.extract i s.size) acc ((q - i : Nat) : Int)) r) : Alike s i acc q := by
  rcases h with ⟨b, e, a1, a2, a3, a4⟩ | ⟨a3, a4⟩
  · exact .inl ⟨b, e, by omega, a2, h1 _ a3, h2 _ a4⟩
  · exact .inr ⟨h1 _ a3, h2 _ a4⟩


theorem up1 (q : Nat) (h : q ≤ 2097200) : wrap64 ((q : Int) + 1) = ((q + 1 : Nat) : Int) := by rw [w64 _ (by omega) (by omega)]; omega
theorem up2 (q : Nat) (h : q ≤ 2097200) : wrap64 ((q : Int) + 2) = ((q + 2 : Nat) : Int) := by rw [w64 _ (by omega) (by omega)]; omega

/-! #### the document's, step by step (t: a text, c: the byte at q) -/
theorem ref_end (t : ByteArray) (acc : List Int) (q : Nat) (h : ¬ q < t.size) : Ev (fun k => glossaryref32_quoted.l0 k t acc (q : Int)) (⟨#[]⟩, -1) := by
  refine Ev.step (f := fun _ => some ((⟨#[]⟩ : ByteArray), -1)) (fun k => ?_) (Ev.now _)
  simp only [glossaryref32_quoted.l0]
  rw [if_neg (by omega)]
theorem ref_quote (t : ByteArray) (acc : List Int) (q : Nat) (ht : t.size ≤ 2097152) (h : q < t.size) (hc : bt t (q : Int) = 34) : Ev (fun k => glossaryref32_quoted.l0 k t acc (q : Int)) (strOfNums acc, ((q + 1 : Nat) : Int)) := by
  refine Ev.step (f := fun _ => some (strOfNums acc, ((q + 1 : Nat) : Int))) (fun k => ?_) (Ev.now _)
  simp only [glossaryref32_quoted.l0]
  rw [if_pos (by omega), if_pos (by omega), hc, if_pos rfl, up1 q (by omega)]
theorem ref_line (t : ByteArray) (acc : List Int) (q : Nat) (h : q < t.size) (hc : bt t (q : Int) = 10) : Ev (fun k => glossaryref32_quoted.l0 k t acc (q : Int)) (⟨#[]⟩, -1) := by
  refine Ev.step (f := fun _ => some ((⟨#[]⟩ : ByteArray), -1)) (fun k => ?_) (Ev.now _)
  simp only [glossaryref32_quoted.l0]
  rw [if_pos (by omega), if_pos (by omega), hc, if_neg (by decide), if_pos rfl]
theorem ref_plain (t : ByteArray) (acc : List Int) (q : Nat) (ht : t.size ≤ 2097152) (ha : acc.length ≤ 2097200) (h : q < t.size) (h1 : bt t (q : Int) ≠ 34) (h2 : bt t (q : Int) ≠ 10) (h3 : bt t (q : Int) ≠ 92) (r : ByteArray × Int) (n : Ev (fun k => glossaryref32_quoted.l0 k t (acc ++ [bt t (q : Int)]) ((q + 1 : Nat) : Int)) r) :
    Ev (fun k => glossaryref32_quoted.l0 k t acc (q : Int)) r := by
  refine Ev.step (fun k => ?_) n
  simp only [glossaryref32_quoted.l0]
  rw [if_pos (by omega), if_pos (by omega), if_neg h1, if_neg h2, if_neg h3, if_pos (by omega), up1 q (by omega)]
theorem ref_escEnd (t : ByteArray) (acc : List Int) (q : Nat) (ht : t.size ≤ 2097152) (h : q < t.size) (hc : bt t (q : Int) = 92) (h1 : ¬ q + 1 < t.size) : Ev (fun k => glossaryref32_quoted.l0 k t acc (q : Int)) (⟨#[]⟩, -1) := by
  refine Ev.step (f := fun _ => some ((⟨#[]⟩ : ByteArray), -1)) (fun k => ?_) (Ev.now _)
  simp only [glossaryref32_quoted.l0]
  rw [if_pos (by omega), if_pos (by omega), hc, if_neg (by decide), if_neg (by decide), if_pos rfl, up1 q (by omega), if_pos (by omega)]
/-- An escape: to the middle function. -/
theorem ref_esc (t : ByteArray) (acc : List Int) (q : Nat) (ht : t.size ≤ 2097152) (h : q < t.size) (hc : bt t (q : Int) = 92) (h1 : q + 1 < t.size) (r : ByteArray × Int) (n : Ev (fun k => glossaryref32_quoted.j1 k t acc ((q + 2 : Nat) : Int) (bt t ((q + 1 : Nat) : Int)) (decide (bt t ((q + 1 : Nat) : Int) = 34 ∨ bt t ((q + 1 : Nat) : Int) = 92))) r) :
    Ev (fun k => glossaryref32_quoted.l0 k t acc (q : Int)) r := by
  refine Ev.step (fun k => ?_) n
  simp only [glossaryref32_quoted.l0]
  rw [if_pos (by omega), if_pos (by omega), hc, if_neg (by decide), if_neg (by decide), if_pos rfl, up1 q (by omega), up2 q (by omega), if_neg (by omega), if_pos (by omega), if_pos (by omega)]
  generalize bt t ((q + 1 : Nat) : Int) = c2
  by_cases h2 : c2 = 34
  · rw [if_pos h2]; congr 1; simp [h2]
  · rw [if_neg h2]; congr 1
    by_cases h3 : c2 = 92 <;> simp [h2, h3]
theorem ref_lit (t : ByteArray) (acc : List Int) (ha : acc.length ≤ 2097200) (c : Int) (p : Nat) (r : ByteArray × Int) (n : Ev (fun k => glossaryref32_quoted.l0 k t (acc ++ [c]) (p : Int)) r) : Ev (fun k => glossaryref32_quoted.j1 k t acc (p : Int) c true) r := by
  refine Ev.step (fun k => ?_) n
  simp only [glossaryref32_quoted.j1, if_true]
  rw [if_pos (by omega)]
theorem ref_nl (t : ByteArray) (acc : List Int) (ha : acc.length ≤ 2097200) (p : Nat) (r : ByteArray × Int) (n : Ev (fun k => glossaryref32_quoted.l0 k t (acc ++ [10]) (p : Int)) r) : Ev (fun k => glossaryref32_quoted.j1 k t acc (p : Int) 110 false) r := by
  refine Ev.step (fun k => ?_) n
  simp only [glossaryref32_quoted.j1, Bool.false_eq_true, if_false, if_true]
  rw [if_pos (by omega)]
theorem ref_j2no (t : ByteArray) (acc : List Int) (p : Int) : Ev (fun k => glossaryref32_quoted.j2 k t acc p false) (⟨#[]⟩, -1) := by
  refine Ev.step (f := fun _ => some ((⟨#[]⟩ : ByteArray), -1)) (fun k => ?_) (Ev.now _)
  simp only [glossaryref32_quoted.j2, Bool.false_eq_true, if_false]
theorem ref_other (t : ByteArray) (acc : List Int) (c : Int) (p : Int) (h1 : c ≠ 110) (h2 : c ≠ 120) : Ev (fun k => glossaryref32_quoted.j1 k t acc p c false) (⟨#[]⟩, -1) := by
  refine Ev.step (fun k => ?_) (ref_j2no t acc p)
  simp only [glossaryref32_quoted.j1, Bool.false_eq_true, if_false]
  rw [if_neg h1, if_neg h2]
theorem ref_xEnd (t : ByteArray) (acc : List Int) (ht : t.size ≤ 2097152) (p : Nat) (h : ¬ p + 1 < t.size) (hp : p ≤ 2097180) : Ev (fun k => glossaryref32_quoted.j1 k t acc (p : Int) 120 false) (⟨#[]⟩, -1) := by
  refine Ev.step (fun k => ?_) (ref_j2no t acc (p : Int))
  simp only [glossaryref32_quoted.j1, Bool.false_eq_true, if_false, if_true]
  rw [if_neg (show ¬ (120 : Int) = 110 by decide), up1 p (by omega), if_neg (by omega)]
theorem ref_x (t : ByteArray) (acc : List Int) (ht : t.size ≤ 2097152) (ha : acc.length ≤ 2097200) (p : Nat) (h : p + 1 < t.size) (a b : Int) (a0 : 0 ≤ a) (a1 : a ≤ 16) (b0 : 0 ≤ b) (b1 : b ≤ 16) (xa : Ev (fun k => glossaryref32_hex.f k (bt t (p : Int))) a) (xb : Ev (fun k => glossaryref32_hex.f k (bt t ((p + 1 : Nat) : Int))) b) (r : ByteArray × Int)
    (n : Ev (fun k => if a < 16 ∧ b < 16 then glossaryref32_quoted.l0 k t (acc ++ [16 * a + b]) ((p + 2 : Nat) : Int) else some (⟨#[]⟩, -1)) r) : Ev (fun k => glossaryref32_quoted.j1 k t acc (p : Int) 120 false) r := by
  refine Ev.step (f := fun k => (glossaryref32_hex.f k (bt t (p : Int))).bind fun a => if a < 16 then (glossaryref32_hex.f k (bt t ((p + 1 : Nat) : Int))).bind fun b => glossaryref32_quoted.j2 k t acc (p : Int) (decide (b < 16)) else glossaryref32_quoted.j2 k t acc (p : Int) false) (fun k => ?_) ?_
  · simp only [glossaryref32_quoted.j1, Bool.false_eq_true, if_false, if_true]
    rw [if_neg (show ¬ (120 : Int) = 110 by decide), up1 p (by omega), if_pos (by omega), if_pos (by omega), if_pos (by omega)]
    simp only [if_pos (show 0 ≤ ((p + 1 : Nat) : Int) by omega)]
  · refine Ev.bind xa ?_
    by_cases ca : a < 16
    · simp only [if_pos ca]
      refine Ev.bind xb ?_
      by_cases cb : b < 16
      · rw [decide_eq_true cb]
        refine Ev.step (f := fun k => (glossaryref32_hex.f k (bt t (p : Int))).bind fun a => (glossaryref32_hex.f k (bt t ((p + 1 : Nat) : Int))).bind fun b => glossaryref32_quoted.l0 k t (acc ++ [(wrap64 ((wrap64 (16 * a)) + b)) % 256]) ((p + 2 : Nat) : Int)) (fun k => ?_) ?_
        · simp only [glossaryref32_quoted.j2, if_true]
          rw [up1 p (by omega), up2 p (by omega), if_pos (by omega), if_pos (by omega)]
          simp only [if_pos (show 0 ≤ ((p + 1 : Nat) : Int) by omega), if_pos (show ((p + 1 : Nat) : Int) < (t.size : Int) by omega), if_pos (show acc.length < 140737488355328 by omega)]
        · refine Ev.bind xa (Ev.bind xb ?_)
          rw [w64 (16 * a) (by omega) (by omega), w64 (16 * a + b) (by omega) (by omega), show (16 * a + b) % 256 = 16 * a + b by omega]
          exact Ev.congr (fun k => (if_pos ⟨ca, cb⟩).symm) n
      · rw [decide_eq_false cb]
        have := ref_j2no t acc (p : Int)
        simp only [if_neg (show ¬ (a < 16 ∧ b < 16) by omega)] at n
        obtain ⟨_, hn⟩ := n
        have e := hn _ (Nat.le_refl _)
        obtain rfl := Option.some.inj e
        exact this
    · simp only [if_neg ca]
      have := ref_j2no t acc (p : Int)
      simp only [if_neg (show ¬ (a < 16 ∧ b < 16) by omega)] at n
      obtain ⟨_, hn⟩ := n
      have e := hn _ (Nat.le_refl _)
      obtain rfl := Option.some.inj e
      exact this

/-! #### the desk's, step by step -/
theorem dk_end (t : ByteArray) (acc : List Int) (q : Nat) (h : ¬ q < t.size) : Ev (fun k => desk_unquote.l0 k t acc (q : Int)) (⟨#[]⟩, 0, false) := by
  refine Ev.step (f := fun _ => some ((⟨#[]⟩ : ByteArray), 0, false)) (fun k => ?_) (Ev.now _)
  simp only [desk_unquote.l0]
  rw [if_neg (by omega)]
theorem dk_quote (t : ByteArray) (acc : List Int) (q : Nat) (ht : t.size ≤ 2097152) (h : q < t.size) (hc : bt t (q : Int) = 34) : Ev (fun k => desk_unquote.l0 k t acc (q : Int)) (strOfNums acc, ((q + 1 : Nat) : Int), true) := by
  refine Ev.step (f := fun _ => some (strOfNums acc, ((q + 1 : Nat) : Int), true)) (fun k => ?_) (Ev.now _)
  simp only [desk_unquote.l0]
  rw [if_pos (by omega), if_pos (by omega), hc, if_pos rfl, up1 q (by omega)]
theorem dk_line (t : ByteArray) (acc : List Int) (q : Nat) (h : q < t.size) (hc : bt t (q : Int) = 10) : Ev (fun k => desk_unquote.l0 k t acc (q : Int)) (⟨#[]⟩, 0, false) := by
  refine Ev.step (f := fun _ => some ((⟨#[]⟩ : ByteArray), 0, false)) (fun k => ?_) (Ev.now _)
  simp only [desk_unquote.l0]
  rw [if_pos (by omega), if_pos (by omega), hc, if_neg (by decide), if_pos rfl]
theorem dk_plain (t : ByteArray) (acc : List Int) (q : Nat) (ht : t.size ≤ 2097152) (ha : acc.length ≤ 2097200) (h : q < t.size) (h1 : bt t (q : Int) ≠ 34) (h2 : bt t (q : Int) ≠ 10) (h3 : bt t (q : Int) ≠ 92) (r : ByteArray × Int × Bool) (n : Ev (fun k => desk_unquote.l0 k t (acc ++ [bt t (q : Int)]) ((q + 1 : Nat) : Int)) r) :
    Ev (fun k => desk_unquote.l0 k t acc (q : Int)) r := by
  refine Ev.step (fun k => ?_) n
  simp only [desk_unquote.l0]
  rw [if_pos (by omega), if_pos (by omega), if_neg h1, if_neg h2, if_neg h3, if_pos (by omega), up1 q (by omega)]
theorem dk_escEnd (t : ByteArray) (acc : List Int) (q : Nat) (ht : t.size ≤ 2097152) (h : q < t.size) (hc : bt t (q : Int) = 92) (h1 : ¬ q + 1 < t.size) : Ev (fun k => desk_unquote.l0 k t acc (q : Int)) (⟨#[]⟩, 0, false) := by
  refine Ev.step (f := fun _ => some ((⟨#[]⟩ : ByteArray), 0, false)) (fun k => ?_) (Ev.now _)
  simp only [desk_unquote.l0]
  rw [if_pos (by omega), if_pos (by omega), hc, if_neg (by decide), if_neg (by decide), if_pos rfl, up1 q (by omega), if_pos (by omega)]
theorem dk_esc (t : ByteArray) (acc : List Int) (q : Nat) (ht : t.size ≤ 2097152) (h : q < t.size) (hc : bt t (q : Int) = 92) (h1 : q + 1 < t.size) (r : ByteArray × Int × Bool) (n : Ev (fun k => desk_unquote.j1 k t acc ((q + 1 : Nat) : Int) (bt t ((q + 1 : Nat) : Int)) (decide (bt t ((q + 1 : Nat) : Int) = 34 ∨ bt t ((q + 1 : Nat) : Int) = 92))) r) :
    Ev (fun k => desk_unquote.l0 k t acc (q : Int)) r := by
  refine Ev.step (fun k => ?_) n
  simp only [desk_unquote.l0]
  rw [if_pos (by omega), if_pos (by omega), hc, if_neg (by decide), if_neg (by decide), if_pos rfl, up1 q (by omega), if_neg (by omega), if_pos (by omega), if_pos (by omega)]
  generalize bt t ((q + 1 : Nat) : Int) = c2
  by_cases h2 : c2 = 34
  · rw [if_pos h2]; congr 1; simp [h2]
  · rw [if_neg h2]; congr 1
    by_cases h3 : c2 = 92 <;> simp [h2, h3]
theorem dk_lit (t : ByteArray) (acc : List Int) (ht : t.size ≤ 2097152) (ha : acc.length ≤ 2097200) (p : Nat) (h : p < t.size) (r : ByteArray × Int × Bool) (n : Ev (fun k => desk_unquote.l0 k t (acc ++ [bt t (p : Int)]) ((p + 1 : Nat) : Int)) r) : Ev (fun k => desk_unquote.j1 k t acc (p : Int) (bt t (p : Int)) true) r := by
  refine Ev.step (fun k => ?_) n
  simp only [desk_unquote.j1, if_true]
  rw [if_pos (by omega), if_pos (by omega), if_pos (by omega), up1 p (by omega)]
theorem dk_nl (t : ByteArray) (acc : List Int) (ht : t.size ≤ 2097152) (ha : acc.length ≤ 2097200) (p : Nat) (h : p < t.size) (r : ByteArray × Int × Bool) (n : Ev (fun k => desk_unquote.l0 k t (acc ++ [10]) ((p + 1 : Nat) : Int)) r) : Ev (fun k => desk_unquote.j1 k t acc (p : Int) 110 false) r := by
  refine Ev.step (fun k => ?_) n
  simp only [desk_unquote.j1, Bool.false_eq_true, if_false, if_true]
  rw [if_pos (by omega), up1 p (by omega)]
theorem dk_j2no (t : ByteArray) (acc : List Int) (p : Int) : Ev (fun k => desk_unquote.j2 k t acc p true) (⟨#[]⟩, 0, false) := by
  refine Ev.step (f := fun _ => some ((⟨#[]⟩ : ByteArray), 0, false)) (fun k => ?_) (Ev.now _)
  simp only [desk_unquote.j2, if_true]
theorem dk_other (t : ByteArray) (acc : List Int) (c : Int) (p : Int) (h1 : c ≠ 110) (h2 : c ≠ 120) : Ev (fun k => desk_unquote.j1 k t acc p c false) (⟨#[]⟩, 0, false) := by
  refine Ev.step (f := fun _ => some ((⟨#[]⟩ : ByteArray), 0, false)) (fun k => ?_) (Ev.now _)
  simp only [desk_unquote.j1, Bool.false_eq_true, if_false]
  rw [if_neg h1, if_neg h2]
theorem dk_xEnd (t : ByteArray) (acc : List Int) (p : Nat) (h : ¬ p + 2 < t.size) (hp : p ≤ 2097180) : Ev (fun k => desk_unquote.j1 k t acc (p : Int) 120 false) (⟨#[]⟩, 0, false) := by
  refine Ev.step (fun k => ?_) (dk_j2no t acc (p : Int))
  simp only [desk_unquote.j1, Bool.false_eq_true, if_false, if_true]
  rw [if_neg (show ¬ (120 : Int) = 110 by decide), up2 p (by omega), if_pos (by omega)]
theorem dk_x (t : ByteArray) (acc : List Int) (ht : t.size ≤ 2097152) (ha : acc.length ≤ 2097200) (p : Nat) (h : p + 2 < t.size) (a b : Int) (a0 : 0 ≤ a) (a1 : a ≤ 16) (b0 : 0 ≤ b) (b1 : b ≤ 16) (xa : Ev (fun k => desk_hex.f k (bt t ((p + 1 : Nat) : Int))) a) (xb : Ev (fun k => desk_hex.f k (bt t ((p + 2 : Nat) : Int))) b) (r : ByteArray × Int × Bool)
    (n : Ev (fun k => if a < 16 ∧ b < 16 then desk_unquote.l0 k t (acc ++ [16 * a + b]) ((p + 3 : Nat) : Int) else some (⟨#[]⟩, 0, false)) r) : Ev (fun k => desk_unquote.j1 k t acc (p : Int) 120 false) r := by
  refine Ev.step (f := fun k => (desk_hex.f k (bt t ((p + 1 : Nat) : Int))).bind fun a => if a > 15 then desk_unquote.j2 k t acc (p : Int) true else (desk_hex.f k (bt t ((p + 2 : Nat) : Int))).bind fun b => desk_unquote.j2 k t acc (p : Int) (decide (b > 15))) (fun k => ?_) ?_
  · simp only [desk_unquote.j1, Bool.false_eq_true, if_false, if_true]
    rw [if_neg (show ¬ (120 : Int) = 110 by decide), up2 p (by omega), up1 p (by omega), if_neg (by omega), if_pos (by omega), if_pos (by omega)]
    simp only [if_pos (show 0 ≤ ((p + 2 : Nat) : Int) by omega), if_pos (show ((p + 2 : Nat) : Int) < (t.size : Int) by omega)]
  · refine Ev.bind xa ?_
    by_cases ca : a < 16
    · simp only [if_neg (show ¬ a > 15 by omega)]
      refine Ev.bind xb ?_
      by_cases cb : b < 16
      · rw [show decide (b > 15) = false from decide_eq_false (by omega)]
        refine Ev.step (f := fun k => (desk_hex.f k (bt t ((p + 1 : Nat) : Int))).bind fun a => (desk_hex.f k (bt t ((p + 2 : Nat) : Int))).bind fun b => desk_unquote.l0 k t (acc ++ [Go.bits .or .u8 ((a * 16) % 256) b]) ((p + 3 : Nat) : Int)) (fun k => ?_) ?_
        · simp only [desk_unquote.j2, Bool.false_eq_true, if_false]
          rw [up1 p (by omega), up2 p (by omega), up1 (p + 2) (by omega), if_pos (by omega), if_pos (by omega)]
          simp only [if_pos (show 0 ≤ ((p + 2 : Nat) : Int) by omega), if_pos (show ((p + 2 : Nat) : Int) < (t.size : Int) by omega), if_pos (show acc.length < 140737488355328 by omega)]
        · refine Ev.bind xa (Ev.bind xb ?_)
          rw [or_at a b a0 ca b0 cb]
          exact Ev.congr (fun k => (if_pos ⟨ca, cb⟩).symm) n
      · rw [show decide (b > 15) = true from decide_eq_true (by omega)]
        have := dk_j2no t acc (p : Int)
        simp only [if_neg (show ¬ (a < 16 ∧ b < 16) by omega)] at n
        obtain ⟨_, hn⟩ := n
        have e := hn _ (Nat.le_refl _)
        obtain rfl := Option.some.inj e
        exact this
    · simp only [if_pos (show a > 15 by omega)]
      have := dk_j2no t acc (p : Int)
      simp only [if_neg (show ¬ (a < 16 ∧ b < 16) by omega)] at n
      obtain ⟨_, hn⟩ := n
      have e := hn _ (Nat.le_refl _)
      obtain rfl := Option.some.inj e
      exact this

/-! #### both -/
theorem alike_go (s : ByteArray) (i : Nat) (hs : s.size ≤ 2097152) : ∀ (d q : Nat) (acc : List Int), s.size - q ≤ d → i < q → q ≤ s.size → acc.length ≤ q → Alike s i acc q := by
  intro d
  have hes : (s.extract i s.size).size = s.size - i := size_ext s i
  have het : (s.extract i s.size).size ≤ 2097152 := by omega
  have hbt : ∀ m, i ≤ m → bt (s.extract i s.size) ((m - i : Nat) : Int) = bt s (m : Int) := fun m hm => by rw [bt_ext]; congr 2; omega
  induction d with
  | zero =>
    intro q acc hd hi hq ha
    exact .inr ⟨ref_end _ _ _ (by omega), dk_end _ _ _ (by omega)⟩
  | succ d ih =>
    intro q acc hd hi hq ha
    by_cases hlt : q < s.size
    · have hb := hbt q (by omega)
      by_cases c34 : bt s (q : Int) = 34
      · left
        refine ⟨strOfNums acc, q + 1, by omega, by omega, ref_quote _ _ _ hs hlt c34, ?_⟩
        rw [show q + 1 - i = q - i + 1 by omega]
        exact dk_quote _ _ _ het (by omega) (hb.trans c34)
      · by_cases c10 : bt s (q : Int) = 10
        · exact .inr ⟨ref_line _ _ _ hlt c10, dk_line _ _ _ (by omega) (hb.trans c10)⟩
        · by_cases c92 : bt s (q : Int) = 92
          · by_cases h1 : q + 1 < s.size
            · have hb1 := hbt (q + 1) (by omega)
              rw [show q + 1 - i = q - i + 1 by omega] at hb1
              by_cases l : bt s ((q + 1 : Nat) : Int) = 34 ∨ bt s ((q + 1 : Nat) : Int) = 92
              · refine (ih (q + 2) (acc ++ [bt s ((q + 1 : Nat) : Int)]) (by omega) (by omega) (by omega) (by simp; omega)).back (by omega) (fun r n => ?_) (fun r n => ?_)
                · refine ref_esc _ _ _ hs hlt c92 h1 r ?_
                  rw [decide_eq_true l]
                  exact ref_lit _ _ (by omega) _ _ _ n
                · refine dk_esc _ _ _ het (by omega) (hb.trans c92) (by omega) r ?_
                  rw [hb1, decide_eq_true l]
                  rw [← hb1] at n ⊢
                  refine dk_lit _ _ het (by omega) _ (by omega) r ?_
                  rw [show q - i + 1 + 1 = q + 2 - i by omega]
                  exact n
              · by_cases l2 : bt s ((q + 1 : Nat) : Int) = 110
                · refine (ih (q + 2) (acc ++ [10]) (by omega) (by omega) (by omega) (by simp; omega)).back (by omega) (fun r n => ?_) (fun r n => ?_)
                  · refine ref_esc _ _ _ hs hlt c92 h1 r ?_
                    rw [decide_eq_false l, l2]
                    exact ref_nl _ _ (by omega) _ _ n
                  · refine dk_esc _ _ _ het (by omega) (hb.trans c92) (by omega) r ?_
                    rw [hb1, decide_eq_false l, l2]
                    refine dk_nl _ _ het (by omega) _ (by omega) r ?_
                    rw [show q - i + 1 + 1 = q + 2 - i by omega]
                    exact n
                · by_cases l3 : bt s ((q + 1 : Nat) : Int) = 120
                  · by_cases h3 : q + 3 < s.size
                    · have hb2 := hbt (q + 2) (by omega)
                      have hb3 := hbt (q + 3) (by omega)
                      rw [show q + 2 - i = q - i + 1 + 1 by omega] at hb2
                      rw [show q + 3 - i = q - i + 1 + 2 by omega] at hb3
                      obtain ⟨va, va0, va1, xa1, xa2⟩ := hex_same (bt s ((q + 2 : Nat) : Int)) (bt_range _ _).1 (bt_range _ _).2
                      obtain ⟨vb, vb0, vb1, xb1, xb2⟩ := hex_same (bt s ((q + 3 : Nat) : Int)) (bt_range _ _).1 (bt_range _ _).2
                      by_cases hv : va < 16 ∧ vb < 16
                      · refine (ih (q + 4) (acc ++ [16 * va + vb]) (by omega) (by omega) (by omega) (by simp; omega)).back (by omega) (fun r n => ?_) (fun r n => ?_)
                        · refine ref_esc _ _ _ hs hlt c92 h1 r ?_
                          rw [decide_eq_false l, l3]
                          refine ref_x _ _ hs (by omega) (q + 2) (by omega) va vb va0 va1 vb0 vb1 xa2 xb2 r ?_
                          exact Ev.congr (fun k => if_pos hv) n
                        · refine dk_esc _ _ _ het (by omega) (hb.trans c92) (by omega) r ?_
                          rw [hb1, decide_eq_false l, l3]
                          refine dk_x _ _ het (by omega) (q - i + 1) (by omega) va vb va0 va1 vb0 vb1 (by rw [hb2]; exact xa1) (by rw [hb3]; exact xb1) r ?_
                          rw [show q - i + 1 + 3 = q + 4 - i by omega]
                          exact Ev.congr (fun k => if_pos hv) n
                      · right
                        constructor
                        · refine ref_esc _ _ _ hs hlt c92 h1 _ ?_
                          rw [decide_eq_false l, l3]
                          refine ref_x _ _ hs (by omega) (q + 2) (by omega) va vb va0 va1 vb0 vb1 xa2 xb2 _ ?_
                          exact Ev.congr (fun k => if_neg hv) (Ev.now _)
                        · refine dk_esc _ _ _ het (by omega) (hb.trans c92) (by omega) _ ?_
                          rw [hb1, decide_eq_false l, l3]
                          refine dk_x _ _ het (by omega) (q - i + 1) (by omega) va vb va0 va1 vb0 vb1 (by rw [hb2]; exact xa1) (by rw [hb3]; exact xb1) _ ?_
                          exact Ev.congr (fun k => if_neg hv) (Ev.now _)
                    · right
                      constructor
                      · refine ref_esc _ _ _ hs hlt c92 h1 _ ?_
                        rw [decide_eq_false l, l3]
                        exact ref_xEnd _ _ hs _ (by omega) (by omega)
                      · refine dk_esc _ _ _ het (by omega) (hb.trans c92) (by omega) _ ?_
                        rw [hb1, decide_eq_false l, l3]
                        exact dk_xEnd _ _ _ (by omega) (by omega)
                  · right
                    constructor
                    · refine ref_esc _ _ _ hs hlt c92 h1 _ ?_
                      rw [decide_eq_false l]
                      exact ref_other _ _ _ _ l2 l3
                    · refine dk_esc _ _ _ het (by omega) (hb.trans c92) (by omega) _ ?_
                      rw [hb1, decide_eq_false l]
                      exact dk_other _ _ _ _ l2 l3
            · exact .inr ⟨ref_escEnd _ _ _ hs hlt c92 h1, dk_escEnd _ _ _ het (by omega) (hb.trans c92) (by omega)⟩
          · refine (ih (q + 1) (acc ++ [bt s (q : Int)]) (by omega) (by omega) (by omega) (by simp; omega)).back (by omega) (fun r n => ?_) (fun r n => ?_)
            · exact ref_plain _ _ _ hs (by omega) hlt c34 c10 c92 r n
            · refine dk_plain _ _ _ het (by omega) (by omega) (by rw [hb]; exact c34) (by rw [hb]; exact c10) (by rw [hb]; exact c92) r ?_
              rw [hb, show q - i + 1 = q + 1 - i by omega]
              exact n
    · exact .inr ⟨ref_end _ _ _ (by omega), dk_end _ _ _ (by omega)⟩
end Go.Proofs.YtbaabgoibpannaaDoor.PDeskWords
