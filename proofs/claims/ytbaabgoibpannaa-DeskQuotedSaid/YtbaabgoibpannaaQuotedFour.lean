/- The statement DeskQuoted: quoted words are found as what was quoted. -/
import Derived.Test.YtbaabgoibpannaaQuotedThree
namespace Go.Proofs.Ytbaabgoibpannaa.PDeskQuoted
open Go.RowKit Go.Proofs.YtbaabgoibpannaaW.PrintWords Go.Proofs.YtbaabgoibpannaaW.PrintLast Go.Proofs.YtbaabgoibpannaaW.PrintMore
set_option linter.unusedVariables false
set_option linter.unusedSimpArgs false

theorem total_append (a b : List ByteArray) : total (a ++ b) = total a + total b := by
  induction a with
  | nil => simp [total]
  | cons x a ih => simp only [List.cons_append, total, ih]; omega
theorem total_mem (l : List ByteArray) (x : ByteArray) (h : x ∈ l) : x.size ≤ total l := by
  induction l with
  | nil => cases h
  | cons y l ih =>
    simp only [total]
    rcases List.mem_cons.1 h with rfl | h
    · omega
    · have := ih h; omega
theorem total_len (l : List ByteArray) : l.length ≤ total l := by
  induction l with
  | nil => simp [total]
  | cons y l ih => simp only [total, List.length_cons]; omega
theorem piece_len (p : Nat) (hp : p ≤ 2) (x : ByteArray) : (piece p x).length ≤ 4 * x.size + 5 := by
  have := quoted_len (bytesOf x)
  rw [bytesOf_length] at this
  simp only [piece, List.length_cons, List.length_append, List.length_replicate]
  omega
theorem pieces_len (p : Nat) (hp : p ≤ 2) (l : List ByteArray) : (l.flatMap (piece p)).length ≤ 5 * total l := by
  induction l with
  | nil => simp
  | cons x l ih =>
    have := piece_len p hp x
    simp only [List.flatMap_cons, List.length_append, total]
    omega

/-- The inner loop: the tabs, then the quoted word. -/
theorem tabs_go (xs : List ByteArray) (b : Int) (p : Nat) (hp : p ≤ 2) (hpick : glossarykit_Pick.f b 3 = some (p : Int)) (pre rest : List ByteArray) (x : ByteArray) (hx : xs = pre ++ x :: rest) (ht : total xs < 4194304) (r : Bool) :
    ∀ (d m : Nat) (line : ByteArray), p - m = d → m ≤ p → line.size + p ≤ 70368744177664 + m →
      (∀ line2, bytesOf line2 = bytesOf line ++ (List.replicate d 9 ++ quoted (bytesOf x)) → Ev (fun k => glossarylaw32_DeskQuoted.l0 k xs b line2 ((pre.length : Int) + 1)) r) →
      Ev (fun k => glossarylaw32_DeskQuoted.l1 k xs b line (pre.length : Int) (m : Int)) r := by
  intro d
  have hl : xs.length = pre.length + (rest.length + 1) := by rw [hx]; simp
  have hlen := total_len xs
  have hsz : x.size < 4194304 := by have := total_mem xs x (by rw [hx]; simp); omega
  have hr : rdOf ByteArray.empty xs (pre.length : Int) = x := by
    unfold rdOf
    rw [Int.toNat_natCast, hx]; simp
  induction d with
  | zero =>
    intro m line hd hm hs next
    have hm2 : m = p := by omega
    subst hm2
    have hq := quote_is x (by omega)
    have hql := quoted_len (bytesOf x)
    rw [bytesOf_length] at hql
    have hn := next (line ++ strOfNums (quoted (bytesOf x))) (by rw [bytes_append, bytes_str _ (quoted_range _ (bytes_range x))]; simp)
    refine Ev.step (f := fun k => (glossarylaw32_quote.f k x).bind fun t => if line.size + t.size ≤ 9223372036854775807 then glossarylaw32_DeskQuoted.l0 k xs b (line ++ t) ((pre.length : Int) + 1) else none) (fun k => ?_) ?_
    · simp only [glossarylaw32_DeskQuoted.l1]
      rw [hpick]
      simp only [Option.bind_some]
      rw [if_neg (by omega), if_pos (by omega), if_pos (by omega), hr, w64 _ (by omega) (by omega)]
    · refine Ev.bind hq ?_
      refine Ev.congr (fun k => ?_) hn
      rw [if_pos (by rw [strOfNums_size]; omega)]
  | succ d ih =>
    intro m line hd hm hs next
    have := ih (m + 1) (line ++ (⟨#[9]⟩ : ByteArray)) (by omega) (by omega) (by rw [ByteArray.size_append]; show line.size + 1 + p ≤ _; omega) (fun line2 h2 => next line2 (by rw [h2, bytes_append]; simp [bytesOf, List.replicate_succ]))
    refine Ev.step (fun k => ?_) this
    simp only [glossarylaw32_DeskQuoted.l1]
    rw [hpick]
    simp only [Option.bind_some]
    rw [if_pos (by omega), if_pos (by omega), w64 _ (by omega) (by omega)]
    congr 1
/-- The line is made, and read. -/
theorem line_go (xs : List ByteArray) (b : Int) (p : Nat) (hp : p ≤ 2) (hpick : glossarykit_Pick.f b 3 = some (p : Int)) (ht : total xs < 4194304) : ∀ (rest pre : List ByteArray) (line : ByteArray), xs = pre ++ rest → bytesOf line = pre.flatMap (piece p) →
    Ev (fun k => glossarylaw32_DeskQuoted.l0 k xs b line (pre.length : Int)) true := by
  have hlen := total_len xs
  intro rest
  induction rest with
  | nil =>
    intro pre line hx hb
    have hl : xs = pre := by rw [hx]; simp
    subst hl
    have hs : line.size ≤ 70368744177664 := by
      have := pieces_len p hp xs
      rw [size_of _ _ hb]; omega
    have hw := words_go line hs p xs [] [] (by rw [hb]; simp) (by simp; omega)
    refine Ev.step (f := fun k => (desk_Words.f k line).bind fun t => if t.2.isNone = true then (glossaryref0_SameTexts.f k t.1 xs).bind fun u => some u else some false) (fun k => ?_) ?_
    · simp only [glossarylaw32_DeskQuoted.l0]
      rw [if_neg (by omega)]
    · refine Ev.bind (a := (xs, none)) hw ?_
      simp only [Option.isNone_none, if_true]
      exact Ev.bind (same_is xs (by omega)) (Ev.now _)
  | cons x rest ih =>
    intro pre line hx hb
    have hl : xs.length = pre.length + (rest.length + 1) := by rw [hx]; simp
    have hs : line.size + 3 ≤ 70368744177664 := by
      have h1 := pieces_len p hp pre
      have h2 : total pre ≤ total xs := by rw [hx, total_append]; omega
      rw [size_of _ _ hb]; omega
    have hin := tabs_go xs b p hp hpick pre rest x hx ht true p 0 (line ++ (⟨#[32]⟩ : ByteArray)) (by omega) (by omega) (by rw [ByteArray.size_append]; show line.size + 1 + p ≤ _; omega) (fun line2 h2 => by
      have := ih (pre ++ [x]) line2 (by rw [hx]; simp) (by rw [h2, bytes_append, hb]; simp [piece, bytesOf])
      simpa using this)
    refine Ev.step (fun k => ?_) hin
    simp only [glossarylaw32_DeskQuoted.l0]
    rw [if_pos (by omega), if_pos (by omega)]
    rfl
theorem first_words : desk_Words.f 20 (⟨#[97, 32, 34, 34, 9, 98, 35, 99]⟩ : ByteArray) = some ([(⟨#[97]⟩ : ByteArray), (⟨#[]⟩ : ByteArray), (⟨#[98, 35, 99]⟩ : ByteArray)], none) := by decide +kernel
theorem quoted_true (xs : List ByteArray) (b : Int) (hx : xs.length ≤ 9223372036854775807) : ∃ k, glossarylaw32_DeskQuoted.f k xs b = some true := by
  obtain ⟨p, hpick, hp⟩ := pick_is b
  have hj : Ev (fun k => glossarylaw32_DeskQuoted.j0 k xs b false) true := by
    refine Ev.step (f := fun k => (glossarylaw32_wide.f k xs).bind fun t => if t = true then some true else glossarylaw32_DeskQuoted.l0 k xs b (⟨#[]⟩ : ByteArray) 0) (fun k => ?_) ?_
    · simp only [glossarylaw32_DeskQuoted.j0, Bool.false_eq_true, if_false]
    · rcases wide_go xs hx xs [] 0 rfl (by omega) with h | ⟨h, ht⟩
      · exact Ev.bind (a := true) h (by simp only [if_true]; exact Ev.now _)
      · refine Ev.bind (a := false) h ?_
        simp only [Bool.false_eq_true, if_false]
        exact line_go xs b p hp hpick (by omega) xs [] _ rfl (by simp [bytesOf])
  refine Ev.rounds (Ev.bind (a := ([(⟨#[97]⟩ : ByteArray), (⟨#[]⟩ : ByteArray), (⟨#[98, 35, 99]⟩ : ByteArray)], none)) (Ev.of (fun k => desk_Words.mono _ k) first_words) ?_)
  simp only [Option.isNone_none, if_true]
  exact Ev.bind (same_is _ (by decide)) hj
end Go.Proofs.Ytbaabgoibpannaa.PDeskQuoted
