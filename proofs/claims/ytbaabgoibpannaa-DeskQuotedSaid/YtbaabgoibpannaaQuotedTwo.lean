/- What was quoted is read back. -/
import Derived.Test.YtbaabgoibpannaaQuotedOne
namespace Go.Proofs.Ytbaabgoibpannaa.PDeskQuoted
open Go.RowKit Go.Proofs.YtbaabgoibpannaaW.PrintWords Go.Proofs.YtbaabgoibpannaaW.PrintLast Go.Proofs.YtbaabgoibpannaaW.PrintMore
set_option linter.unusedVariables false
set_option linter.unusedSimpArgs false


/-- One piece of a quoted text is read. -/
theorem unq_one (s : ByteArray) (hs : s.size ≤ 70368744177664) (rest acc pre : List Int) (c : Int) (hc : 0 ≤ c ∧ c ≤ 255) (h : bytesOf s = pre ++ (encB c ++ rest)) (ha : acc.length ≤ pre.length) (r : ByteArray × Int × Bool)
    (next : Ev (fun k => desk_unquote.l0 k s (acc ++ [c]) ((pre.length : Int) + (encB c).length)) r) : Ev (fun k => desk_unquote.l0 k s acc (pre.length : Int)) r := by
  by_cases c1 : c = 34 ∨ c = 92
  · have e : encB c = [92, c] := by simp only [encB, if_pos c1]
    rw [e] at h next
    have b0 := bt_of s pre (c :: rest) 92 (by rw [h]; rfl)
    have b1 := bt_of s (pre ++ [92]) rest c (by rw [h]; simp)
    have e3 : (((pre ++ [92]).length : Nat) : Int) = (pre.length : Int) + 1 := by simp
    rw [e3] at b1
    have hz := size_of s _ h
    simp only [List.length_append, List.length_cons, List.length_nil] at hz next
    clear h e3
    refine Ev.step (f := fun k => desk_unquote.j1 k s acc ((pre.length : Int) + 1) c true) (fun k => ?_) ?_
    · simp only [desk_unquote.l0]
      rw [if_pos (by omega), if_pos (by omega), b0, if_neg (by decide), if_neg (by decide), if_pos rfl, w64 _ (by omega) (by omega), if_neg (by omega), if_pos (by omega), if_pos (by omega), b1]
      rcases c1 with rfl | rfl
      · rw [if_pos rfl]
        congr 1
      · rw [if_neg (by decide)]
        congr 1
    · refine Ev.step (fun k => ?_) next
      simp only [desk_unquote.j1, if_true]
      rw [if_pos (by omega), if_pos (by omega), if_pos (by omega), b1, w64 _ (by omega) (by omega)]
      congr 1
  · by_cases c2 : c = 10
    · have e : encB c = [92, 110] := by simp only [encB, if_neg c1, if_pos c2]
      rw [e] at h next
      have b0 := bt_of s pre (110 :: rest) 92 (by rw [h]; rfl)
      have b1 := bt_of s (pre ++ [92]) rest 110 (by rw [h]; simp)
      have e3 : (((pre ++ [92]).length : Nat) : Int) = (pre.length : Int) + 1 := by simp
      rw [e3] at b1
      have hz := size_of s _ h
      simp only [List.length_append, List.length_cons, List.length_nil] at hz next
      clear h e3
      refine Ev.step (f := fun k => desk_unquote.j1 k s acc ((pre.length : Int) + 1) 110 false) (fun k => ?_) ?_
      · simp only [desk_unquote.l0]
        rw [if_pos (by omega), if_pos (by omega), b0, if_neg (by decide), if_neg (by decide), if_pos rfl, w64 _ (by omega) (by omega), if_neg (by omega), if_pos (by omega), if_pos (by omega), b1, if_neg (by decide)]
        congr 1
      · refine Ev.step (fun k => ?_) next
        simp only [desk_unquote.j1, Bool.false_eq_true, if_false, if_true]
        rw [if_pos (by omega), w64 _ (by omega) (by omega), c2]
        congr 1
    · by_cases c3 : c < 32 ∨ c > 126
      · have e : encB c = [92, 120, hx (c / 16), hx (c % 16)] := by simp only [encB, if_neg c1, if_neg c2, if_pos c3]
        rw [e] at h next
        have b0 := bt_of s pre (120 :: hx (c / 16) :: hx (c % 16) :: rest) 92 (by rw [h]; rfl)
        have b1 := bt_of s (pre ++ [92]) (hx (c / 16) :: hx (c % 16) :: rest) 120 (by rw [h]; simp)
        have b2 := bt_of s (pre ++ [92, 120]) (hx (c % 16) :: rest) (hx (c / 16)) (by rw [h]; simp)
        have b3 := bt_of s (pre ++ [92, 120, hx (c / 16)]) rest (hx (c % 16)) (by rw [h]; simp)
        have e1 : (((pre ++ [92]).length : Nat) : Int) = (pre.length : Int) + 1 := by simp
        have e2 : (((pre ++ [92, 120]).length : Nat) : Int) = (pre.length : Int) + 1 + 1 := by simp; omega
        have e3 : (((pre ++ [92, 120, hx (c / 16)]).length : Nat) : Int) = (pre.length : Int) + 1 + 2 := by simp; omega
        rw [e1] at b1
        rw [e2] at b2
        rw [e3] at b3
        have hz := size_of s _ h
        simp only [List.length_append, List.length_cons, List.length_nil] at hz next
        clear h e1 e2 e3
        have x1 := hex_r (c / 16) (by omega) (by omega)
        have x2 := hex_r (c % 16) (by omega) (by omega)
        have o := or_at c hc
        refine Ev.step (f := fun k => desk_unquote.j1 k s acc ((pre.length : Int) + 1) 120 false) (fun k => ?_) ?_
        · simp only [desk_unquote.l0]
          rw [if_pos (by omega), if_pos (by omega), b0, if_neg (by decide), if_neg (by decide), if_pos rfl, w64 _ (by omega) (by omega), if_neg (by omega), if_pos (by omega), if_pos (by omega), b1, if_neg (by decide)]
          congr 1
        · generalize hx (c / 16) = y1 at *
          generalize hx (c % 16) = y2 at *
          refine Ev.step (f := fun k => (desk_hex.f k y1).bind fun a => if a > 15 then desk_unquote.j2 k s acc ((pre.length : Int) + 1) true else (desk_hex.f k y2).bind fun b => desk_unquote.j2 k s acc ((pre.length : Int) + 1) (decide (b > 15))) (fun k => ?_) ?_
          · simp only [desk_unquote.j1, Bool.false_eq_true, if_false, if_true]
            rw [w64 ((pre.length : Int) + 1 + 2) (by omega) (by omega), w64 ((pre.length : Int) + 1 + 1) (by omega) (by omega), b2, b3, if_neg (show ¬ (120 : Int) = 110 by decide), if_neg (show ¬ (pre.length : Int) + 1 + 2 ≥ (s.size : Int) by omega), if_pos (show 0 ≤ (pre.length : Int) + 1 + 1 by omega), if_pos (show (pre.length : Int) + 1 + 1 < (s.size : Int) by omega), if_pos (show 0 ≤ (pre.length : Int) + 1 + 2 by omega), if_pos (show (pre.length : Int) + 1 + 2 < (s.size : Int) by omega)]
          · refine Ev.bind x1 ?_
            refine Ev.congr (fun k => if_neg (show ¬ c / 16 > 15 by omega)) ?_
            refine Ev.bind x2 ?_
            rw [show decide (c % 16 > 15) = false from decide_eq_false (by omega)]
            refine Ev.step (f := fun k => (desk_hex.f k y1).bind fun a => (desk_hex.f k y2).bind fun b => desk_unquote.l0 k s (acc ++ [Go.bits .or .u8 ((a * 16) % 256) b]) ((pre.length : Int) + 1 + 2 + 1)) (fun k => ?_) ?_
            · simp only [desk_unquote.j2, Bool.false_eq_true, if_false]
              rw [w64 ((pre.length : Int) + 1 + 2) (by omega) (by omega), w64 ((pre.length : Int) + 1 + 1) (by omega) (by omega), w64 ((pre.length : Int) + 1 + 2 + 1) (by omega) (by omega), b2, b3, if_pos (show 0 ≤ (pre.length : Int) + 1 + 1 by omega), if_pos (show (pre.length : Int) + 1 + 1 < (s.size : Int) by omega)]
              simp only [if_pos (show 0 ≤ (pre.length : Int) + 1 + 2 by omega), if_pos (show (pre.length : Int) + 1 + 2 < (s.size : Int) by omega), if_pos (show acc.length < 140737488355328 by omega)]
            · refine Ev.bind x1 (Ev.bind x2 ?_)
              rw [o]
              rw [show (pre.length : Int) + 1 + 2 + 1 = (pre.length : Int) + ((0 + 1 + 1 + 1 + 1 : Nat) : Int) by omega]
              exact next
      · have e : encB c = [c] := by simp only [encB, if_neg c1, if_neg c2, if_neg c3]
        rw [e] at h next
        have b0 := bt_of s pre rest c (by rw [h]; rfl)
        have hz := size_of s _ h
        simp only [List.length_append, List.length_cons, List.length_nil] at hz next
        clear h
        refine Ev.step (fun k => ?_) next
        simp only [desk_unquote.l0]
        rw [if_pos (by omega), if_pos (by omega), b0, if_neg (by omega), if_neg (by omega), if_neg (by omega), if_pos (by omega), w64 _ (by omega) (by omega)]
        congr 1


theorem unquote_go (s : ByteArray) (hs : s.size ≤ 70368744177664) (rest : List Int) : ∀ (l pre acc : List Int), (∀ c ∈ l, 0 ≤ c ∧ c ≤ 255) → bytesOf s = pre ++ (encs' l ++ 34 :: rest) → acc.length ≤ pre.length →
    Ev (fun k => desk_unquote.l0 k s acc (pre.length : Int)) (strOfNums (acc ++ l), (pre.length : Int) + (encs' l).length + 1, true) := by
  intro l
  induction l with
  | nil =>
    intro pre acc _ h ha
    have hl := size_of s _ h
    simp [encs'] at hl h
    have hb := bt_of s pre rest 34 h
    refine Ev.step (f := fun _ => some (strOfNums (acc ++ []), (pre.length : Int) + (encs' []).length + 1, true)) (fun k => ?_) (Ev.now _)
    simp only [desk_unquote.l0]
    rw [if_pos (by omega), if_pos (by omega), hb, if_pos rfl, w64 _ (by omega) (by omega)]
    simp [encs']
  | cons c l ih =>
    intro pre acc hr h ha
    have hcl := encB_len c
    have hc := hr c (by simp)
    have h2 : bytesOf s = pre ++ (encB c ++ (encs' l ++ 34 :: rest)) := by rw [h]; simp [encs']
    refine unq_one s hs _ acc pre c hc h2 ha _ ?_
    have := ih (pre ++ encB c) (acc ++ [c]) (fun d hd => hr d (by simp [hd])) (by rw [h2]; simp) (by simp; omega)
    have e : (((pre ++ encB c).length : Nat) : Int) = (pre.length : Int) + (encB c).length := by simp
    rw [e] at this
    have e2 : (pre.length : Int) + (encs' (c :: l)).length + 1 = (pre.length : Int) + (encB c).length + (encs' l).length + 1 := by simp [encs']; omega
    rw [e2]
    simpa [List.append_assoc] using this
end Go.Proofs.Ytbaabgoibpannaa.PDeskQuoted
