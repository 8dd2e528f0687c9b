/- The statement DeskQuoted over numbers and lists: whatever the words (so long as they are not too wide) and the number, they are found as what was quoted. -/
import Derived.Test.YtbaabgoibpannaaQuotedTwo
namespace Go.Proofs.Ytbaabgoibpannaa.PDeskQuoted
open Go.RowKit Go.Proofs.YtbaabgoibpannaaW.PrintWords Go.Proofs.YtbaabgoibpannaaW.PrintLast Go.Proofs.YtbaabgoibpannaaW.PrintMore
set_option linter.unusedVariables false
set_option linter.unusedSimpArgs false

theorem blank_no (c : Int) (h : c = 34 ∨ c = 35) : desk_isBlank.f c = some false := by
  rcases h with rfl | rfl <;> rfl
theorem blank_yes (c : Int) (h : c = 32 ∨ c = 9) : desk_isBlank.f c = some true := by
  rcases h with rfl | rfl <;> rfl

/-- A blank is passed over. -/
theorem words_blank (s : ByteArray) (hs : s.size ≤ 70368744177664) (pre suf : List Int) (acc : List ByteArray) (c : Int) (hc : c = 32 ∨ c = 9) (h : bytesOf s = pre ++ c :: suf) (r : List ByteArray × Option Int)
    (next : Ev (fun k => desk_Words.l0 k s acc ((pre ++ [c]).length : Int)) r) : Ev (fun k => desk_Words.l0 k s acc (pre.length : Int)) r := by
  have hb := bt_of s pre suf c h
  have hz := size_of s _ h
  simp only [List.length_append, List.length_cons, List.length_nil] at hz next
  refine Ev.step (fun k => ?_) next
  simp only [desk_Words.l0]
  rw [if_pos (by omega), if_pos (by omega), hb, blank_yes c hc]
  simp only [Option.bind_some, if_true]
  rw [w64 _ (by omega) (by omega)]
  congr 1
theorem words_blanks (s : ByteArray) (hs : s.size ≤ 70368744177664) (suf : List Int) (acc : List ByteArray) (r : List ByteArray × Option Int) : ∀ (n : Nat) (pre : List Int), bytesOf s = pre ++ (List.replicate n 9 ++ suf) →
    Ev (fun k => desk_Words.l0 k s acc ((pre ++ List.replicate n 9).length : Int)) r → Ev (fun k => desk_Words.l0 k s acc (pre.length : Int)) r := by
  intro n
  induction n with
  | zero => intro pre h hn; simpa using hn
  | succ n ih =>
    intro pre h hn
    refine words_blank s hs pre (List.replicate n 9 ++ suf) acc 9 (.inr rfl) (by rw [h]; simp [List.replicate_succ]) r ?_
    refine ih (pre ++ [9]) (by rw [h]; simp [List.replicate_succ]) ?_
    have e : pre ++ [9] ++ List.replicate n 9 = pre ++ List.replicate (n + 1) 9 := by simp [List.replicate_succ]
    rw [e]; exact hn
/-- A quoted word is taken. -/
theorem words_quoted (s : ByteArray) (hs : s.size ≤ 70368744177664) (pre suf : List Int) (acc : List ByteArray) (x : ByteArray) (hacc : acc.length < 4194304) (h : bytesOf s = pre ++ (quoted (bytesOf x) ++ suf)) (hsuf : suf = [] ∨ ∃ t, suf = 32 :: t) (r : List ByteArray × Option Int)
    (next : Ev (fun k => desk_Words.l0 k s (acc ++ [x]) ((pre ++ quoted (bytesOf x)).length : Int)) r) : Ev (fun k => desk_Words.l0 k s acc (pre.length : Int)) r := by
  have hb := bt_of s pre (encs' (bytesOf x) ++ 34 :: suf) 34 (by rw [h]; simp [quoted])
  have hz := size_of s _ h
  have hq : (quoted (bytesOf x)).length = (encs' (bytesOf x)).length + 2 := by simp [quoted]
  have hu : bytesOf (s.extract pre.length s.size) = [34] ++ (encs' (bytesOf x) ++ 34 :: suf) := by rw [bytes_extract, h]; simp [quoted]
  have hus : (s.extract pre.length s.size).size ≤ 70368744177664 := by
    rw [size_of _ _ hu]
    simp only [List.length_append, List.length_cons, List.length_nil] at hz ⊢
    omega
  have hun := unquote_go (s.extract pre.length s.size) hus suf (bytesOf x) [34] [] (bytes_range x) hu (by simp)
  simp only [List.nil_append, str_bytes, List.length_cons, List.length_nil] at hun
  simp only [List.length_append] at hz next
  rw [hq] at hz next
  generalize hL : (encs' (bytesOf x)).length = L at *
  have hun' : Ev (fun k => desk_unquote.f k (s.extract pre.length s.size)) (x, (L : Int) + 2, true) := by
    have : ((0 + 1 : Nat) : Int) + (L : Int) + 1 = (L : Int) + 2 := by omega
    rw [this] at hun
    exact hun
  have hend : suf = [] ∧ s.size = pre.length + (L + 2) ∨ ((pre.length : Int) + ((L : Int) + 2) < (s.size : Int) ∧ bt s ((pre.length : Int) + ((L : Int) + 2)) = 32) := by
    rcases hsuf with rfl | ⟨t, rfl⟩
    · left; exact ⟨rfl, by simp at hz; omega⟩
    · right
      have b := bt_of s (pre ++ quoted (bytesOf x)) t 32 (by rw [h]; simp)
      rw [List.length_append, hq] at b
      simp only [List.length_cons] at hz
      refine ⟨by omega, ?_⟩
      rw [← b]; congr 1
  clear h hu hun hq
  refine Ev.step (f := fun k => (desk_unquote.f k (s.extract pre.length s.size)).bind fun bt118 => if bt118.2.2 = true then (if (wrap64 ((pre.length : Int) + bt118.2.1)) < (s.size : Int) then (if 0 ≤ (wrap64 ((pre.length : Int) + bt118.2.1)) then ((desk_isBlank.f (bt s (wrap64 ((pre.length : Int) + bt118.2.1)))).bind fun t121 => (if t121 = true then (if acc.length < 8796093022208 then (desk_Words.l0 k s (acc ++ [bt118.1]) (wrap64 ((pre.length : Int) + bt118.2.1))) else (none)) else (some (([] : List ByteArray), some 6)))) else (none)) else (if acc.length < 8796093022208 then (desk_Words.l0 k s (acc ++ [bt118.1]) (wrap64 ((pre.length : Int) + bt118.2.1))) else (none))) else (some (([] : List ByteArray), some 6))) (fun k => ?_) ?_
  · simp only [desk_Words.l0]
    rw [if_pos (by omega), if_pos (by omega), hb, blank_no 34 (.inl rfl)]
    simp only [Option.bind_some, Bool.false_eq_true, if_false, if_true]
    rw [if_neg (by decide), if_pos (by omega), Int.toNat_natCast]
  · refine Ev.bind hun' ?_
    simp only [if_true]
    rw [w64 ((pre.length : Int) + ((L : Int) + 2)) (by omega) (by omega)]
    rcases hend with ⟨_, he⟩ | ⟨he, hb2⟩
    · refine Ev.congr (fun k => ?_) next
      rw [if_neg (by omega), if_pos (by omega)]
      congr 1
    · refine Ev.congr (fun k => ?_) next
      rw [if_pos he, if_pos (by omega), hb2, blank_yes 32 (.inl rfl)]
      simp only [Option.bind_some, if_true]
      rw [if_pos (by omega)]
      congr 1
/-- What a line of quoted words says. -/
def piece (p : Nat) (x : ByteArray) : List Int := 32 :: (List.replicate p 9 ++ quoted (bytesOf x))
theorem words_go (s : ByteArray) (hs : s.size ≤ 70368744177664) (p : Nat) : ∀ (l : List ByteArray) (pre : List Int) (acc : List ByteArray), bytesOf s = pre ++ l.flatMap (piece p) → acc.length + l.length ≤ 4194304 →
    Ev (fun k => desk_Words.l0 k s acc (pre.length : Int)) (acc ++ l, none) := by
  intro l
  induction l with
  | nil =>
    intro pre acc h _
    have hz := size_of s _ h
    simp at hz
    refine Ev.step (f := fun _ => some (acc ++ [], none)) (fun k => ?_) (Ev.now _)
    simp only [desk_Words.l0]
    rw [if_neg (by omega)]
    simp
  | cons x l ih =>
    intro pre acc h hn
    have h1 : bytesOf s = pre ++ 32 :: (List.replicate p 9 ++ (quoted (bytesOf x) ++ l.flatMap (piece p))) := by rw [h]; simp [piece]
    refine words_blank s hs pre _ acc 32 (.inl rfl) h1 _ ?_
    refine words_blanks s hs (quoted (bytesOf x) ++ l.flatMap (piece p)) acc _ p (pre ++ [32]) (by rw [h1]; simp) ?_
    refine words_quoted s hs (pre ++ [32] ++ List.replicate p 9) (l.flatMap (piece p)) acc x (by simp at hn; omega) (by rw [h1]; simp) ?_ _ ?_
    · cases l with
      | nil => left; rfl
      | cons y l => right; exact ⟨_, by simp only [List.flatMap_cons, piece, List.cons_append]; rfl⟩
    · have := ih (pre ++ [32] ++ List.replicate p 9 ++ quoted (bytesOf x)) (acc ++ [x]) (by rw [h1]; simp) (by simp at hn ⊢; omega)
      simpa using this

theorem same_go (xs : List ByteArray) (hx : xs.length ≤ 9223372036854775806) : ∀ (d i : Nat), xs.length - i = d → i ≤ xs.length → Ev (fun k => glossaryref0_SameTexts.l0 k xs xs (i : Int)) true := by
  intro d
  induction d with
  | zero =>
    intro i hd hi
    refine Ev.step (f := fun _ => some true) (fun k => ?_) (Ev.now _)
    simp only [glossaryref0_SameTexts.l0]
    rw [if_neg (by omega)]
  | succ d ih =>
    intro i hd hi
    have := ih (i + 1) (by omega) (by omega)
    refine Ev.step (fun k => ?_) this
    simp only [glossaryref0_SameTexts.l0]
    rw [if_pos (by omega), if_pos (by omega), if_pos (by omega), w64 _ (by omega) (by omega)]
    simp
theorem same_is (xs : List ByteArray) (hx : xs.length ≤ 9223372036854775806) : Ev (fun k => glossaryref0_SameTexts.f k xs xs) true := by
  refine Ev.congr (fun k => ?_) (same_go xs hx _ 0 rfl (Nat.zero_le _))
  unfold glossaryref0_SameTexts.f
  rw [if_pos rfl]; rfl

/-- Wide, or the words are few and short. -/
def total : List ByteArray → Nat
  | [] => 0
  | x :: l => 1 + x.size + total l
theorem wide_go (xs : List ByteArray) (hx : xs.length ≤ 9223372036854775807) : ∀ (rest pre : List ByteArray) (n : Nat), xs = pre ++ rest → n < 4194304 →
    Ev (fun k => glossarylaw32_wide.l0 k xs (n : Int) (pre.length : Int)) true ∨ (Ev (fun k => glossarylaw32_wide.l0 k xs (n : Int) (pre.length : Int)) false ∧ n + total rest < 4194304) := by
  intro rest
  induction rest with
  | nil =>
    intro pre n h hn
    right
    refine ⟨Ev.step (f := fun _ => some false) (fun k => ?_) (Ev.now _), by simpa [total] using hn⟩
    have hl : xs.length = pre.length := by rw [h]; simp
    simp only [glossarylaw32_wide.l0]
    rw [if_neg (by omega)]
  | cons x rest ih =>
    intro pre n h hn
    have hl : xs.length = pre.length + (rest.length + 1) := by rw [h]; simp
    have hr : rdOf ByteArray.empty xs (pre.length : Int) = x := by
      unfold rdOf
      rw [Int.toNat_natCast, h]; simp
    have hm : ∃ m : Nat, mn (x.size : Int) 4194304 = (m : Int) ∧ m ≤ 4194304 ∧ (m < 4194304 → m = x.size) := by
      unfold mn
      by_cases c : (4194304 : Int) < (x.size : Int)
      · exact ⟨4194304, by rw [if_pos c]; rfl, by omega, by omega⟩
      · exact ⟨x.size, by rw [if_neg c], by omega, by omega⟩
    obtain ⟨m, hm1, hm2, hm3⟩ := hm
    by_cases c : 4194304 ≤ n + 1 + m
    · left
      refine Ev.step (f := fun _ => some true) (fun k => ?_) (Ev.now _)
      simp only [glossarylaw32_wide.l0]
      rw [if_pos (by omega), if_pos (by omega), hr, hm1, w64 ((n : Int) + 1) (by omega) (by omega), w64 _ (by omega) (by omega), if_pos (by omega)]
    · have step : ∀ b, Ev (fun k => glossarylaw32_wide.l0 k xs ((n + 1 + m : Nat) : Int) (((pre ++ [x]).length : Nat) : Int)) b → Ev (fun k => glossarylaw32_wide.l0 k xs (n : Int) (pre.length : Int)) b := by
        intro b hb
        refine Ev.step (fun k => ?_) hb
        simp only [glossarylaw32_wide.l0]
        rw [if_pos (by omega), if_pos (by omega), hr, hm1, w64 ((n : Int) + 1) (by omega) (by omega), w64 ((n : Int) + 1 + (m : Int)) (by omega) (by omega), if_neg (by omega), w64 _ (by omega) (by omega)]
        congr 1
        simp
      rcases ih (pre ++ [x]) (n + 1 + m) (by rw [h]; simp) (by omega) with h1 | ⟨h1, h2⟩
      · left; exact step _ h1
      · right
        refine ⟨step _ h1, ?_⟩
        have := hm3 (by omega)
        simp only [total]
        omega

theorem pick_is (b : Int) : ∃ p : Nat, glossarykit_Pick.f b 3 = some (p : Int) ∧ p ≤ 2 := by
  unfold glossarykit_Pick.f
  rw [if_neg (by decide), if_neg (by decide)]
  have h1 := Int.tmod_lt_of_pos b (show (0 : Int) < 3 by decide)
  have h2 : -3 < Int.tmod b 3 := by
    have := Int.tmod_lt_of_pos (-b) (show (0 : Int) < 3 by decide)
    rw [Int.neg_tmod] at this
    omega
  by_cases c : Int.tmod b 3 < 0
  · refine ⟨(Int.tmod b 3 + 3).toNat, ?_, by omega⟩
    rw [if_pos c, w64 _ (by omega) (by omega)]
    congr 1; omega
  · refine ⟨(Int.tmod b 3).toNat, ?_, by omega⟩
    rw [if_neg c]
    congr 1; omega
end Go.Proofs.Ytbaabgoibpannaa.PDeskQuoted
