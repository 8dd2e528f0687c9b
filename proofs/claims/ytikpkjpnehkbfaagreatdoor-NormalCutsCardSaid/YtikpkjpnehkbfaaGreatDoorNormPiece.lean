/- What the laws of chapter 7 ask: plain. -/
import Derived.Test.YtikpkjpnehkbfaaGreatDoorNormOrd
namespace Go.Proofs.YtikpkjpnehkbfaaGreatDoor.Nm
set_option linter.unusedVariables false
set_option linter.unusedSimpArgs false
open Go Go.Lib Go.Proofs.YtikpkjpnehkbfaaGreatDoor.Sp

theorem flat_dec_len {D : PD} (h : Good D) (l : List Int) : (flat D (decN D l)).length = (flat D l).length := by
  rw [dec_flat h]; unfold decN; exact ordR_length _ _
theorem flat_comp_len {D : PD} (h : Good D) (l : List Int) : (flat D (compN D l)).length = (flat D l).length := by
  have e := congrArg List.length (dec_comp h l)
  unfold decN at e
  rwa [ordR_length, ordR_length] at e
/-- What a stream holds: O came out, R is its rest, T came in. -/
structure PI (D : PD) (T O R : List Int) : Prop where
  dec : decN D T = O ++ R
  set : IsSet (classOf D) (decN D T) O.length
theorem PI.zero (D : PD) : PI D [] [] [] := ⟨rfl, ⟨Nat.le_refl _, .inl rfl, fun i x _ h => by simp [dec_nil] at h⟩⟩
theorem PI.rest {D : PD} {T O R : List Int} (h : PI D T O R) : (decN D T).take O.length = O ∧ (decN D T).drop O.length = R := by
  rw [h.dec]; exact ⟨List.take_left .., List.drop_left ..⟩
theorem PI.step {D : PD} (hg : Good D) {T O R M : List Int} {n : Nat} (h : PI D T O R) (hn : IsSet (classOf D) (decN D (R ++ M)) n) :
    PI D (T ++ M) (O ++ (decN D (R ++ M)).take n) ((decN D (R ++ M)).drop n) := by
  obtain ⟨e1, e2⟩ := h.rest
  have e := dec_more hg T M h.set
  rw [e1, e2] at e
  have k := h.set.more hn
  rw [e1] at k
  have hl := hn.le
  refine ⟨by rw [e, List.append_assoc, List.take_append_drop], ?_⟩
  rw [e, List.length_append, List.length_take, Nat.min_eq_left hl]
  exact k
theorem PI.flat_len {D : PD} (hg : Good D) {T O R M : List Int} (h : PI D T O R) : (flat D (R ++ M)).length ≤ (flat D (T ++ M)).length := by
  have e : flat D R = R := flat_leaf fun x hx => dec_leaf hg (l := T) (by rw [h.dec]; exact List.mem_append_right _ hx)
  have e2 : (flat D T).length = (decN D T).length := by unfold decN; exact (ordR_length _ _).symm
  have e3 := congrArg List.length h.dec
  rw [flat_append, flat_append, List.length_append, List.length_append, e, e2, e3, List.length_append]
  omega
theorem PI.done {D : PD} {T O R : List Int} (h : PI D T O R) : O ++ R = decN D T := h.dec.symm
/-- The cuts of NormalCuts. -/
theorem flat_head {D : PD} (hg : Good D) : ∀ (m : List Int) (x : Int), (flat D m).head? = some x → ∃ r t, m = r :: t ∧ (wholeOf D r)[0]? = some x
  | [], x, h => by cases h
  | r :: t, x, h => by
    refine ⟨r, t, rfl, ?_⟩
    have h1 := (hg.len r).1
    rw [flat_cons] at h
    cases hw : wholeOf D r with
    | nil => rw [hw] at h1; simp at h1
    | cons y u => rw [hw] at h; simpa using h
/-- Is a row in order? -/
def Srtd (D : PD) (l : List Int) : Prop := ∀ i x, l[i]? = some x → decompOf D x = [] ∧ ∀ y, 0 < i → l[i - 1]? = some y → 0 < classOf D x → classOf D y ≤ classOf D x
theorem dec_srtd {D : PD} (hg : Good D) (l : List Int) : Srtd D (decN D l) := fun i x hx => by
  refine ⟨dec_leaf hg (List.mem_of_getElem? hx), fun y h0 hy hc => dec_ord D l (i - 1) y x hy (by rwa [Nat.sub_add_cancel h0]) hc⟩
end Go.Proofs.YtikpkjpnehkbfaaGreatDoor.Nm
