/- The words of a line: for each line of at most 2^20 bytes both come to one list of words, or both to the error. -/
import Derived.Test.YtbaabgoibpannaaDoorWordsPure
namespace Go.Proofs.YtbaabgoibpannaaDoor.PDeskWords
open Go.RowKit Go.Proofs.YtbaabgoibpannaaDoorW.PrintWords Go.Proofs.YtbaabgoibpannaaDoorW.PrintLast Go.Proofs.YtbaabgoibpannaaDoorW.PrintMore
set_option linter.unusedVariables false
set_option linter.unusedSimpArgs false

def Both (s : ByteArray) (acc : List ByteArray) (q : Nat) : Prop :=
  (∃ l : List ByteArray, l.length ≤ s.size ∧ Ev (fun k => desk_Words.l0 k s acc (q : Int)) (l, none) ∧ Ev (fun k => glossaryref32_Words.l0 k s acc (q : Int)) (l, 0)) ∨
  (Ev (fun k => desk_Words.l0 k s acc (q : Int)) ([], some 6) ∧ Ev (fun k => glossaryref32_Words.l0 k s acc (q : Int)) ([], 6))
theorem Both.back {s : ByteArray} {acc acc' : List ByteArray} {q q' : Nat} (h : Both s acc' q')
    (h1 : ∀ r, Ev (fun k => desk_Words.l0 k s acc' (q' : Int)) r → Ev (fun k => desk_Words.l0 k s acc (q : Int)) r)
    (h2 : ∀ r, Ev (fun k => glossaryref32_Words.l0 k s acc' (q' : Int)) r → Ev (fun k => glossaryref32_Words.l0 k s acc (q : Int)) r) : Both s acc q := by
  rcases h with ⟨l, a1, a2, a3⟩ | ⟨a2, a3⟩
  · exact .inl ⟨l, a1, h1 _ a2, h2 _ a3⟩
  · exact .inr ⟨h1 _ a2, h2 _ a3⟩

/-- The bare word that begins at q and has been read up to m. -/
theorem bare_go (s : ByteArray) (hs : s.size ≤ 1048576) (acc : List ByteArray) (ha : acc.length ≤ 1048576) (q : Nat) : ∀ (d m : Nat), s.size - m ≤ d → q ≤ m → m ≤ s.size →
    ∃ e, m ≤ e ∧ e ≤ s.size ∧ (∀ b, desk_isBlank.f (bt s (m : Int)) = some b → m < s.size → b = false → m < e) ∧
      (∀ r, Ev (fun k => desk_Words.l0 k s (acc ++ [s.extract q e]) (e : Int)) r → Ev (fun k => desk_Words.l1 k s acc (q : Int) (m : Int)) r) ∧
      (∀ r, Ev (fun k => glossaryref32_Words.l0 k s (acc ++ [s.extract q e]) (e : Int)) r → Ev (fun k => glossaryref32_Words.l1 k s acc (q : Int) (m : Int)) r) := by
  intro d
  induction d with
  | zero =>
    intro m hd hq hm
    have hme : m = s.size := by omega
    refine ⟨m, Nat.le_refl _, hm, fun _ _ h => by omega, fun r n => ?_, fun r n => ?_⟩
    · refine Ev.step (fun k => ?_) n
      simp only [desk_Words.l1]
      rw [if_neg (by omega), if_pos (by omega), if_pos (by omega), if_pos (by omega), if_pos (by omega), Int.toNat_natCast, Int.toNat_natCast]
    · refine Ev.step (fun k => ?_) n
      simp only [glossaryref32_Words.l1]
      rw [if_neg (by omega), if_pos (by omega), if_pos (by omega), if_pos (by omega), if_pos (by omega), Int.toNat_natCast, Int.toNat_natCast]
  | succ d ih =>
    intro m hd hq hm
    by_cases hlt : m < s.size
    · obtain ⟨b, hb1, hb2⟩ := blank_same (bt s (m : Int))
      cases b with
      | true =>
        refine ⟨m, Nat.le_refl _, hm, fun b h1 _ h2 => ?_, fun r n => ?_, fun r n => ?_⟩
        · rw [hb1] at h1
          cases h1
          cases h2
        · refine Ev.step (fun k => ?_) n
          simp only [desk_Words.l1]
          rw [if_pos (by omega), if_pos (by omega), hb1]
          simp only [Option.bind_some, if_true]
          rw [if_pos (by omega), if_pos (by omega), if_pos (by omega), if_pos (by omega), Int.toNat_natCast, Int.toNat_natCast]
        · refine Ev.step (fun k => ?_) n
          simp only [glossaryref32_Words.l1]
          rw [if_pos (by omega), if_pos (by omega), hb2]
          simp only [Option.bind_some, if_true]
          rw [if_pos (by omega), if_pos (by omega), if_pos (by omega), if_pos (by omega), Int.toNat_natCast, Int.toNat_natCast]
      | false =>
        obtain ⟨e, h1, h2, _, h4, h5⟩ := ih (m + 1) (by omega) (by omega) (by omega)
        refine ⟨e, by omega, h2, fun _ _ _ _ => by omega, fun r n => ?_, fun r n => ?_⟩
        · refine Ev.step (fun k => ?_) (h4 r n)
          simp only [desk_Words.l1]
          rw [if_pos (by omega), if_pos (by omega), hb1]
          simp only [Option.bind_some, Bool.false_eq_true, if_false]
          rw [up1 m (by omega)]
        · refine Ev.step (fun k => ?_) (h5 r n)
          simp only [glossaryref32_Words.l1]
          rw [if_pos (by omega), if_pos (by omega), hb2]
          simp only [Option.bind_some, Bool.false_eq_true, if_false]
          rw [up1 m (by omega)]
    · have hme : m = s.size := by omega
      refine ⟨m, Nat.le_refl _, hm, fun _ _ h => by omega, fun r n => ?_, fun r n => ?_⟩
      · refine Ev.step (fun k => ?_) n
        simp only [desk_Words.l1]
        rw [if_neg (by omega), if_pos (by omega), if_pos (by omega), if_pos (by omega), if_pos (by omega), Int.toNat_natCast, Int.toNat_natCast]
      · refine Ev.step (fun k => ?_) n
        simp only [glossaryref32_Words.l1]
        rw [if_neg (by omega), if_pos (by omega), if_pos (by omega), if_pos (by omega), if_pos (by omega), Int.toNat_natCast, Int.toNat_natCast]

theorem both_go (s : ByteArray) (hs : s.size ≤ 1048576) : ∀ (d q : Nat) (acc : List ByteArray), s.size - q ≤ d → q ≤ s.size → acc.length ≤ q → Both s acc q := by
  intro d
  induction d with
  | zero =>
    intro q acc hd hq ha
    left
    refine ⟨acc, by omega, ?_, ?_⟩
    · refine Ev.step (f := fun _ => some (acc, none)) (fun k => ?_) (Ev.now _)
      simp only [desk_Words.l0]
      rw [if_neg (by omega)]
    · refine Ev.step (f := fun _ => some (acc, 0)) (fun k => ?_) (Ev.now _)
      simp only [glossaryref32_Words.l0]
      rw [if_neg (by omega)]
  | succ d ih =>
    intro q acc hd hq ha
    by_cases hlt : q < s.size
    · obtain ⟨b, hb1, hb2⟩ := blank_same (bt s (q : Int))
      cases b with
      | true =>
        refine (ih (q + 1) acc (by omega) (by omega) (by omega)).back (fun r n => ?_) (fun r n => ?_)
        · refine Ev.step (fun k => ?_) n
          simp only [desk_Words.l0]
          rw [if_pos (by omega), if_pos (by omega), hb1]
          simp only [Option.bind_some, if_true]
          rw [up1 q (by omega)]
        · refine Ev.step (fun k => ?_) n
          simp only [glossaryref32_Words.l0]
          rw [if_pos (by omega), if_pos (by omega), hb2]
          simp only [Option.bind_some, if_true]
          rw [up1 q (by omega)]
      | false =>
        by_cases c35 : bt s (q : Int) = 35
        · left
          refine ⟨acc, by omega, ?_, ?_⟩
          · refine Ev.step (f := fun _ => some (acc, none)) (fun k => ?_) (Ev.now _)
            simp only [desk_Words.l0]
            rw [if_pos (by omega), if_pos (by omega), hb1]
            simp only [Option.bind_some, Bool.false_eq_true, if_false]
            rw [if_pos c35]
          · refine Ev.step (f := fun _ => some (acc, 0)) (fun k => ?_) (Ev.now _)
            simp only [glossaryref32_Words.l0]
            rw [if_pos (by omega), if_pos (by omega), hb2]
            simp only [Option.bind_some, Bool.false_eq_true, if_false]
            rw [if_pos c35]
        · by_cases c34 : bt s (q : Int) = 34
          · -- the two functions on what is quoted
            have dk : ∀ (x : ByteArray × Int × Bool) (r : List ByteArray × Option Int), Ev (fun k => desk_unquote.f k (s.extract q s.size)) x →
                Ev (fun k => if x.2.2 = true then (if (wrap64 ((q : Int) + x.2.1)) < (s.size : Int) then (if 0 ≤ (wrap64 ((q : Int) + x.2.1)) then ((desk_isBlank.f (bt s (wrap64 ((q : Int) + x.2.1)))).bind fun t121 => (if t121 = true then (if acc.length < 8796093022208 then (desk_Words.l0 k s (acc ++ [x.1]) (wrap64 ((q : Int) + x.2.1))) else (none)) else (some (([] : List ByteArray), some 6)))) else (none)) else (if acc.length < 8796093022208 then (desk_Words.l0 k s (acc ++ [x.1]) (wrap64 ((q : Int) + x.2.1))) else (none))) else (some (([] : List ByteArray), some 6))) r →
                Ev (fun k => desk_Words.l0 k s acc (q : Int)) r := by
              intro x r hx hr
              refine Ev.step (f := fun k => (desk_unquote.f k (s.extract q s.size)).bind fun x => if x.2.2 = true then (if (wrap64 ((q : Int) + x.2.1)) < (s.size : Int) then (if 0 ≤ (wrap64 ((q : Int) + x.2.1)) then ((desk_isBlank.f (bt s (wrap64 ((q : Int) + x.2.1)))).bind fun t121 => (if t121 = true then (if acc.length < 8796093022208 then (desk_Words.l0 k s (acc ++ [x.1]) (wrap64 ((q : Int) + x.2.1))) else (none)) else (some (([] : List ByteArray), some 6)))) else (none)) else (if acc.length < 8796093022208 then (desk_Words.l0 k s (acc ++ [x.1]) (wrap64 ((q : Int) + x.2.1))) else (none))) else (some (([] : List ByteArray), some 6))) (fun k => ?_) (Ev.bind hx hr)
              simp only [desk_Words.l0]
              rw [if_pos (by omega), if_pos (by omega), hb1]
              simp only [Option.bind_some, Bool.false_eq_true, if_false]
              rw [if_neg c35, if_pos c34, if_pos (by omega), Int.toNat_natCast]
            have rf : ∀ (x : ByteArray × Int) (r : List ByteArray × Int), Ev (fun k => glossaryref32_quoted.f k s (q : Int)) x →
                Ev (fun k => if x.2 < 0 then (some (([] : List ByteArray), (6 : Int))) else (if x.2 < (s.size : Int) then (if 0 ≤ x.2 then ((glossaryref32_blank.f (bt s x.2)).bind fun t120 => (if t120 = true then (if acc.length < 8796093022208 then (glossaryref32_Words.l0 k s (acc ++ [x.1]) x.2) else (none)) else (some (([] : List ByteArray), 6)))) else (none)) else (if acc.length < 8796093022208 then (glossaryref32_Words.l0 k s (acc ++ [x.1]) x.2) else (none)))) r →
                Ev (fun k => glossaryref32_Words.l0 k s acc (q : Int)) r := by
              intro x r hx hr
              refine Ev.step (f := fun k => (glossaryref32_quoted.f k s (q : Int)).bind fun x => if x.2 < 0 then (some (([] : List ByteArray), (6 : Int))) else (if x.2 < (s.size : Int) then (if 0 ≤ x.2 then ((glossaryref32_blank.f (bt s x.2)).bind fun t120 => (if t120 = true then (if acc.length < 8796093022208 then (glossaryref32_Words.l0 k s (acc ++ [x.1]) x.2) else (none)) else (some (([] : List ByteArray), 6)))) else (none)) else (if acc.length < 8796093022208 then (glossaryref32_Words.l0 k s (acc ++ [x.1]) x.2) else (none)))) (fun k => ?_) (Ev.bind hx hr)
              simp only [glossaryref32_Words.l0]
              rw [if_pos (by omega), if_pos (by omega), hb2]
              simp only [Option.bind_some, Bool.false_eq_true, if_false]
              rw [if_neg c35, if_pos c34]
            have hal := alike_go s q (by omega) s.size (q + 1) [] (by omega) (by omega) (by omega) (by simp)
            have f1 : ∀ x, Ev (fun k => glossaryref32_quoted.l0 k s [] ((q + 1 : Nat) : Int)) x → Ev (fun k => glossaryref32_quoted.f k s (q : Int)) x := fun x h => Ev.congr (fun k => by unfold glossaryref32_quoted.f; rw [up1 q (by omega)]) h
            have f2 : ∀ x, Ev (fun k => desk_unquote.l0 k (s.extract q s.size) [] ((q + 1 - q : Nat) : Int)) x → Ev (fun k => desk_unquote.f k (s.extract q s.size)) x := fun x h => Ev.congr (fun k => by unfold desk_unquote.f; congr 1; omega) h
            rcases hal with ⟨x, e, e1, e2, g1, g2⟩ | ⟨g1, g2⟩
            · have we : wrap64 ((q : Int) + ((e - q : Nat) : Int)) = (e : Int) := by rw [w64 _ (by omega) (by omega)]; omega
              by_cases he : e < s.size
              · obtain ⟨c, hc1, hc2⟩ := blank_same (bt s (e : Int))
                cases c with
                | true =>
                  refine (ih e (acc ++ [x]) (by omega) (by omega) (by simp; omega)).back (fun r n => ?_) (fun r n => ?_)
                  · refine dk _ r (f2 _ g2) (Ev.congr (fun k => ?_) n)
                    simp only [if_true]
                    rw [we, if_pos (by omega), if_pos (by omega), hc1]
                    simp only [Option.bind_some, if_true]
                    rw [if_pos (by omega)]
                  · refine rf _ r (f1 _ g1) (Ev.congr (fun k => ?_) n)
                    simp only
                    rw [if_neg (by omega), if_pos (by omega), if_pos (by omega), hc2]
                    simp only [Option.bind_some, if_true]
                    rw [if_pos (by omega)]
                | false =>
                  right
                  constructor
                  · refine dk _ _ (f2 _ g2) (Ev.congr (fun k => ?_) (Ev.now _))
                    simp only [if_true]
                    rw [we, if_pos (by omega), if_pos (by omega), hc1]
                    simp only [Option.bind_some, Bool.false_eq_true, if_false]
                  · refine rf _ _ (f1 _ g1) (Ev.congr (fun k => ?_) (Ev.now _))
                    simp only
                    rw [if_neg (by omega), if_pos (by omega), if_pos (by omega), hc2]
                    simp only [Option.bind_some, Bool.false_eq_true, if_false]
              · refine (ih e (acc ++ [x]) (by omega) (by omega) (by simp; omega)).back (fun r n => ?_) (fun r n => ?_)
                · refine dk _ r (f2 _ g2) (Ev.congr (fun k => ?_) n)
                  simp only [if_true]
                  rw [we, if_neg (by omega), if_pos (by omega)]
                · refine rf _ r (f1 _ g1) (Ev.congr (fun k => ?_) n)
                  simp only
                  rw [if_neg (by omega), if_neg (by omega), if_pos (by omega)]
            · right
              constructor
              · refine dk _ _ (f2 _ g2) (Ev.congr (fun k => ?_) (Ev.now _))
                simp only [Bool.false_eq_true, if_false]
              · refine rf _ _ (f1 _ g1) (Ev.congr (fun k => ?_) (Ev.now _))
                simp only
                rw [if_pos (by omega)]
          · obtain ⟨e, e1, e2, e3, e4, e5⟩ := bare_go s hs acc (by omega) q s.size q (by omega) (Nat.le_refl _) hq
            have hqe := e3 false hb1 hlt rfl
            refine (ih e (acc ++ [s.extract q e]) (by omega) (by omega) (by simp; omega)).back (fun r n => ?_) (fun r n => ?_)
            · refine Ev.step (fun k => ?_) (e4 r n)
              simp only [desk_Words.l0]
              rw [if_pos (by omega), if_pos (by omega), hb1]
              simp only [Option.bind_some, Bool.false_eq_true, if_false]
              rw [if_neg c35, if_neg c34]
            · refine Ev.step (fun k => ?_) (e5 r n)
              simp only [glossaryref32_Words.l0]
              rw [if_pos (by omega), if_pos (by omega), hb2]
              simp only [Option.bind_some, Bool.false_eq_true, if_false]
              rw [if_neg c35, if_neg c34]
    · left
      refine ⟨acc, by omega, ?_, ?_⟩
      · refine Ev.step (f := fun _ => some (acc, none)) (fun k => ?_) (Ev.now _)
        simp only [desk_Words.l0]
        rw [if_neg (by omega)]
      · refine Ev.step (f := fun _ => some (acc, 0)) (fun k => ?_) (Ev.now _)
        simp only [glossaryref32_Words.l0]
        rw [if_neg (by omega)]

/-- What both come to: the words, and the error's number (0: none). -/
theorem words_both (s : ByteArray) (hs : s.size ≤ 1048576) : ∃ (l : List ByteArray) (e : Option Int) (k : Nat), l.length ≤ 1048576 ∧ (e = none ∨ e = some 6) ∧ desk_Words.f k s = some (l, e) ∧ glossaryref32_Words.f k s = some (l, e.getD 0) := by
  rcases both_go s hs s.size 0 [] (by omega) (by omega) (by simp) with ⟨l, h1, ⟨k1, h2⟩, ⟨k2, h3⟩⟩ | ⟨⟨k1, h2⟩, ⟨k2, h3⟩⟩
  · exact ⟨l, none, max k1 k2, by omega, .inl rfl, h2 _ (Nat.le_max_left _ _), h3 _ (Nat.le_max_right _ _)⟩
  · exact ⟨[], some 6, max k1 k2, by simp, .inr rfl, h2 _ (Nat.le_max_left _ _), h3 _ (Nat.le_max_right _ _)⟩

theorem same_go (xs : List ByteArray) (hx : xs.length ≤ 1048576) : ∀ (d i : Nat), xs.length - i = d → i ≤ xs.length → Ev (fun k => glossaryref0_SameTexts.l0 k xs xs (i : Int)) true := by
  intro d
  induction d with
  | zero =>
    intro i hd hi
    refine Ev.step (f := fun _ => some true) (fun k => ?_) (Ev.now _)
    simp only [glossaryref0_SameTexts.l0]
    rw [if_neg (by omega)]
  | succ d ih =>
    intro i hd hi
    have := ih (i + 1) (by omega) (by omega)
    refine Ev.step (fun k => ?_) this
    simp only [glossaryref0_SameTexts.l0]
    rw [if_pos (by omega), if_pos (by omega), if_pos (by omega), up1 i (by omega)]
    simp
theorem same_is (xs : List ByteArray) (hx : xs.length ≤ 1048576) : ∃ k, glossaryref0_SameTexts.f k xs xs = some true := by
  refine Ev.rounds (Ev.congr (fun k => ?_) (same_go xs hx _ 0 rfl (Nat.zero_le _)))
  unfold glossaryref0_SameTexts.f
  rw [if_pos rfl]; rfl
end Go.Proofs.YtbaabgoibpannaaDoor.PDeskWords
