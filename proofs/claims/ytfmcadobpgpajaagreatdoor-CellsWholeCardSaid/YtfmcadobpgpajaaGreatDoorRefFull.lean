/- The reference's full decompositions, counted. -/
import Derived.Test.YtfmcadobpgpajaaGreatDoorRefEndWalk
namespace Go.Proofs.YtfmcadobpgpajaaGreatDoor.Rf
open Go Go.RowKit Go.Shelf Go.Proofs.YtfmcadobpgpajaaGreatDoor.Sp Go.Proofs.YtfmcadobpgpajaaGreatDoor.Pr Go.Proofs.YtfmcadobpgpajaaGreatDoor.Rowl
set_option linter.unusedSimpArgs false

theorem decomp_facts {st : St} (hok : StOk st) (r : Int) : (decompOf st.d r).length ≤ 8 ∧ ∀ x ∈ decompOf st.d r, 0 ≤ x ∧ x ≤ 1114111 := by
  unfold decompOf
  by_cases hs : isSyl r = true
  · rw [if_pos hs]
    have hb : 44032 ≤ r ∧ r < 55204 := by simpa [isSyl] using hs
    unfold sylOf
    constructor
    · simp only [List.length_append, List.length_cons, List.length_nil]
      split <;> simp
    · intro x hx
      simp only [List.mem_append, List.mem_cons, List.not_mem_nil, or_false] at hx
      rcases hx with (rfl | rfl) | hx
      · omega
      · omega
      · split at hx
        · simp at hx
        · simp only [List.mem_cons, List.not_mem_nil, or_false] at hx
          subst hx
          omega
  · rw [if_neg hs]
    cases hl : lookD st.d.decomps r with
    | none => exact ⟨Nat.zero_le _, by simp⟩
    | some ps =>
      have hm := lookD_in hl
      exact ⟨(hok.d8 _ hm).1, fun x hx => char_bounds ((hok.chars _ hm).2 x hx)⟩
def FI (f : Int → Option Nat) (l : List Int) (m i n : Nat) : Prop := sumFrom f (some (min n 9)) (l.drop i) = some m ∧ n ≤ 17
theorem FI.step {f : Int → Option Nat} {l : List Int} {m i n : Nat} (h : FI f l m i n) (h8 : n ≤ 8) {x : Int} (hx : l[i]? = some x) (h9 : ∀ b, f x = some b → b ≤ 9) : ∃ b, f x = some b ∧ b ≤ 9 ∧ FI f l m (i + 1) (n + b) := by
  obtain ⟨h1, h2⟩ := h
  obtain ⟨hi, e⟩ := List.getElem?_eq_some_iff.1 hx
  rw [List.drop_eq_getElem_cons hi, e, sumFrom_cons] at h1
  cases hf : f x with
  | none => rw [hf] at h1; cases h1
  | some b =>
    rw [hf] at h1
    have hb := h9 b hf
    refine ⟨b, rfl, hb, ?_, by omega⟩
    rwa [show min (n + b) 9 = min (min n 9 + b) 9 by omega]
theorem FI.done {f : Int → Option Nat} {l : List Int} {m i n : Nat} (h : FI f l m i n) (he : l.length ≤ i ∨ 8 < n) : m = min n 9 := by
  obtain ⟨h1, h2⟩ := h
  rcases he with he | he
  · rw [List.drop_eq_nil_of_le he] at h1
    unfold sumFrom at h1
    simp only [List.foldl_nil, Option.some.injEq] at h1
    exact h1.symm
  · have a := sumFrom_ge _ _ _ (by omega) h1
    have b := sumFrom_le _ _ _ (by omega) h1
    omega
abbrev FullC (q : Nat) (st : St) (k : Nat) : Prop := ∀ (r : Int) (m : Nat) (w : World), fullGo st.d k r = some m → 0 ≤ r → r ≤ 1114111 → RefAt q w st → Calls Tryz.prog 50 #[.pointer (some ⟨q, 0, none⟩), .int .i32 r] w fun e w' => e = .returned (.int .i64 m) ∧ Below w.heap.size w w'
set_option maxHeartbeats 4000000 in
set_option maxRecDepth 100000 in
theorem full_step (q : Nat) (st : St) (k : Nat) (ih : FullC q st k) : FullC q st (k + 1) := by
  intro r m w hm hr0 hr1 h
  have HF := decomp_facts h.2.1 r
  have HD := Lib.hid (rdecomp_calls q st r (by omega) (by omega) w h)
  have HIH := Lib.hid ih
  have HR := Lib.hid h
  rw [fullGo] at hm
  clear h ih
  obtain ⟨hl8, hlb⟩ := HF
  have HLB := Lib.hid hlb
  clear hlb
  generalize decompOf st.d r = l at *
  by_cases h0 : l = []
  · subst h0
    rw [if_pos rfl] at hm
    injection hm with hm
    subst hm
    clear hl8
    go_enter Tryz.func50, Tryz.ntmps50
    go_wp2_with (go_at_call 80; go_must (refine HD.out.mono ?_; rintro e w5 ⟨v', rfl, ho, hb5⟩; obtain ⟨Av, Cv, rfl⟩ := own_slice ho))
    go_ret
    exact ⟨rfl, hb5⟩
  · rw [if_neg h0, sumOf_from] at hm
    have hl1 : 0 < l.length := List.length_pos_iff.2 h0
    have hb0 : ((l.length : Int) == 0) = false := beq_eq_false_iff_ne.2 (by omega)
    have HFI : Hid (FI (fullGo st.d k) l m 0 0) := Lib.hid ⟨hm, by omega⟩
    clear hm h0
    go_enter Tryz.func50, Tryz.ntmps50
    go_wp2_with (go_at_call 80; go_must (refine HD.out.mono ?_; rintro e w5 ⟨v', rfl, ho, hb5⟩; obtain ⟨Gv, Cv, rfl, hgv1, hgv2, _⟩ := own_some ho hl1; have HV := Lib.hid (ReadPts.own ho); have HB5 := Lib.hid hb5; clear ho hb5))
    go_loopw [6, 7] (fun vn vi wr => ∃ n i : Nat, vn = .int .i64 n ∧ vi = .int .i64 i ∧ i ≤ l.length ∧ n ≤ 17 ∧ Hid (FI (fullGo st.d k) l m i n) ∧ Hid (Below w5.heap.size w5 wr)) (fun _ vi _ => l.length - (intOf vi).toNat)
    case atStart => exact ⟨0, 0, rfl, rfl, by omega, by omega, HFI, Lib.hid (Below.refl _ _)⟩
    case round =>
      obtain ⟨n, i, rfl, rfl, hi, hn, HI, HW⟩ := hrel
      rename World => w2
      by_cases hgo : i < l.length ∧ n ≤ 8
      · obtain ⟨hlt, h8⟩ := hgo
        obtain ⟨x, hx⟩ : ∃ x, l[i]? = some x := ⟨_, List.getElem?_eq_getElem hlt⟩
        obtain ⟨b, hfb, hb9, hN⟩ := HI.out.step h8 hx (fun b hb => (fullGo_pos _ _ _ _ hb).2)
        have hxb := HLB.out x (List.mem_of_getElem? hx)
        have hc : w2.cell? ⟨Gv, i, none⟩ = some (.int .i32 x) := by
          have := cell_later HW.out (HV.out.cell i x hx)
          simpa using this
        have HC := Lib.hid (HIH.out x b w2 hfb hxb.1 hxb.2 ((HR.out.on HB5.out).on HW.out))
        have HN := Lib.hid hN
        have f1 : (0 : Int) ≤ (i : Int) := by omega
        have f2 : (i : Int) < (l.length : Int) := by omega
        have f3 : (n : Int) ≤ 8 := by omega
        clear hx hfb hN
        go_wp2_with (go_at_call 50; go_must (refine HC.out.mono ?_; rintro e w6 ⟨rfl, hb6⟩; have HW2 := Lib.hid (below_then HW.out hb6); clear hb6))
        go_roundw
        case rel => exact ⟨n + b, i + 1, by go_num, by go_num, by omega, by omega, HN, HW2⟩
        case measure => simp [intOf]; omega
      · have HM : Hid (m = min n 9) := Lib.hid (HI.out.done (by omega))
        clear HI
        by_cases hlt : i < l.length
        · have f3 : ¬ (n : Int) ≤ 8 := by omega
          have hm9 : Hid ((m : Int) = min (n : Int) 9) := Lib.hid (by have := HM.out; omega)
          have f4 : ¬ (n : Int) < 9 := by omega
          go_wp2
          go_ret
          rw [hm9.out]
          exact ⟨rfl, below_then HB5.out HW.out⟩
        · have hie : i = l.length := by omega
          subst hie
          by_cases h9 : n ≤ 8
          · have hm9 : Hid ((m : Int) = min (n : Int) 9) := Lib.hid (by have := HM.out; omega)
            have f4 : (n : Int) < 9 := by omega
            go_wp2
            go_ret
            rw [hm9.out]
            exact ⟨rfl, below_then HB5.out HW.out⟩
          · have hm9 : Hid ((m : Int) = min (n : Int) 9) := Lib.hid (by have := HM.out; omega)
            have f4 : ¬ (n : Int) < 9 := by omega
            go_wp2
            go_ret
            rw [hm9.out]
            exact ⟨rfl, below_then HB5.out HW.out⟩
theorem full_calls (q : Nat) (st : St) (r : Int) (m : Nat) (w : World) (h : Full st.d r m) (hr0 : 0 ≤ r) (hr1 : r ≤ 1114111) (hR : RefAt q w st) : Calls Tryz.prog 50 #[.pointer (some ⟨q, 0, none⟩), .int .i32 r] w fun e w' => e = .returned (.int .i64 m) ∧ Below w.heap.size w w' := by
  obtain ⟨k, hk⟩ := h
  have key : ∀ k, FullC q st k := by
    intro k
    induction k with
    | zero => intro r m w hm; cases hm
    | succ k ih => exact full_step q st k ih
  exact key k r m w hk hr0 hr1 hR
end Go.Proofs.YtfmcadobpgpajaaGreatDoor.Rf
