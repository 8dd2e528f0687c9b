/- A text is quoted byte by byte. -/
import Derived.Test.YtbaabgoibpannaaQuotedBase
namespace Go.Proofs.Ytbaabgoibpannaa.PDeskQuoted
open Go.RowKit Go.Proofs.YtbaabgoibpannaaW.PrintWords Go.Proofs.YtbaabgoibpannaaW.PrintLast Go.Proofs.YtbaabgoibpannaaW.PrintMore
set_option linter.unusedVariables false
set_option linter.unusedSimpArgs false

/-- A text is quoted byte by byte. -/
theorem quote_go (s : ByteArray) (hs : s.size ≤ 1099511627776) : ∀ (suf pre acc : List Int), bytesOf s = pre ++ suf → acc.length ≤ 4 * pre.length + 1 →
    Ev (fun k => glossarylaw32_quote.l0 k s acc (pre.length : Int)) (strOfNums (acc ++ encs' suf ++ [34])) := by
  intro suf
  induction suf with
  | nil =>
    intro pre acc h ha
    have hl := size_of s _ h
    simp at hl
    refine Ev.step (f := fun _ => some (strOfNums (acc ++ encs' [] ++ [34]))) (fun k => ?_) (Ev.now _)
    simp only [glossarylaw32_quote.l0]
    rw [if_neg (by omega), if_pos (by omega)]
    simp [encs']
  | cons c suf ih =>
    intro pre acc h ha
    have hl := size_of s _ h
    simp at hl
    have hb := bt_of s pre suf c h
    have hr := bytes_range s c (by rw [h]; simp)
    have hcl := encB_len c
    have h2 : bytesOf s = (pre ++ [c]) ++ suf := by rw [h]; simp
    have next : Ev (fun k => glossarylaw32_quote.l0 k s (acc ++ encB c) (wrap64 ((pre.length : Int) + 1))) (strOfNums (acc ++ encs' (c :: suf) ++ [34])) := by
      have := ih (pre ++ [c]) (acc ++ encB c) h2 (by simp; omega)
      rw [w64 _ (by omega) (by omega)]
      have e : (((pre ++ [c]).length : Nat) : Int) = (pre.length : Int) + 1 := by simp
      rw [e] at this
      simpa [encs', List.append_assoc] using this
    have two : Ev (fun k => glossarylaw32_quote.j1 k s acc (pre.length : Int) c (decide (c = 34 ∨ c = 92))) (strOfNums (acc ++ encs' (c :: suf) ++ [34])) := by
      refine Ev.step (f := fun k => if decide (c = 34 ∨ c = 92) = true then glossarylaw32_quote.l0 k s (acc ++ encB c) (wrap64 ((pre.length : Int) + 1)) else if c = 10 then glossarylaw32_quote.l0 k s (acc ++ encB c) (wrap64 ((pre.length : Int) + 1)) else glossarylaw32_quote.j2 k s acc (pre.length : Int) c (decide (c < 32 ∨ c > 126))) (fun k => ?_) ?_
      · simp only [glossarylaw32_quote.j1, Option.bind_some]
        by_cases c1 : c = 34 ∨ c = 92
        · rw [if_pos (decide_eq_true c1), if_pos (decide_eq_true c1), if_pos (by simp only [List.length_cons, List.length_nil]; omega)]
          simp [encB, c1]
        · have c1' : ¬ decide (c = 34 ∨ c = 92) = true := by simpa using c1
          rw [if_neg c1', if_neg c1']
          by_cases c2 : c = 10
          · rw [if_pos c2, if_pos c2, if_pos (by simp only [List.length_cons, List.length_nil]; omega)]
            simp [encB, c1, c2]
          · rw [if_neg c2, if_neg c2]
            by_cases c3 : c < 32
            · rw [if_pos c3]; simp [c3]
            · rw [if_neg c3]; simp [c3]
      · by_cases c1 : c = 34 ∨ c = 92
        · simp only [c1, decide_true, if_true]; exact next
        · simp only [c1, decide_false, Bool.false_eq_true, if_false]
          by_cases c2 : c = 10
          · simp only [c2, if_true]; rw [c2] at next; exact next
          · simp only [c2, if_false]
            refine Ev.step (f := fun k => glossarylaw32_quote.l0 k s (acc ++ encB c) (wrap64 ((pre.length : Int) + 1))) (fun k => ?_) next
            simp only [glossarylaw32_quote.j2, Option.bind_some]
            by_cases c3 : c < 32 ∨ c > 126
            · rw [if_pos (by simp [c3])]
              have e1 : Int.tdiv c 16 % 256 = c / 16 := by rw [Int.tdiv_eq_ediv_of_nonneg (by omega)]; omega
              have e2 : Int.tmod c 16 = c % 16 := Int.tmod_eq_emod_of_nonneg (by omega)
              rw [e1, e2, hex_w _ (by omega) (by omega), hex_w _ (by omega) (by omega)]
              simp only [Option.bind_some]
              rw [if_pos (by simp only [List.length_cons, List.length_nil]; omega)]
              simp [encB, c1, c2, c3]
            · rw [if_neg (by simp [c3]), if_pos (by omega)]
              simp [encB, c1, c2, c3]
    refine Ev.step (f := fun k => glossarylaw32_quote.j1 k s acc (pre.length : Int) c (decide (c = 34 ∨ c = 92))) (fun k => ?_) two
    simp only [glossarylaw32_quote.l0]
    rw [if_pos (by omega), if_pos (by omega), hb]
    by_cases c1 : c = 34
    · rw [if_pos c1]; simp [c1]
    · rw [if_neg c1]
      congr 1
      by_cases c9 : c = 92 <;> simp [c1, c9]
def quoted (l : List Int) : List Int := 34 :: (encs' l ++ [34])
theorem quote_is (s : ByteArray) (hs : s.size ≤ 1099511627776) : Ev (fun k => glossarylaw32_quote.f k s) (strOfNums (quoted (bytesOf s))) := by
  have := quote_go s hs (bytesOf s) [] [34] (by simp) (by simp)
  simpa [glossarylaw32_quote.f, quoted] using this
theorem quoted_range (l : List Int) (h : ∀ c ∈ l, 0 ≤ c ∧ c ≤ 255) : ∀ d ∈ quoted l, 0 ≤ d ∧ d ≤ 255 := by
  intro d hd
  simp only [quoted, List.mem_cons, List.mem_append, List.not_mem_nil, or_false] at hd
  rcases hd with rfl | hd | rfl
  · omega
  · exact encs_range l h d hd
  · omega
theorem quoted_len (l : List Int) : (quoted l).length ≤ 4 * l.length + 2 ∧ 2 ≤ (quoted l).length := by
  have := encs_len l
  simp [quoted]; omega

end Go.Proofs.Ytbaabgoibpannaa.PDeskQuoted
