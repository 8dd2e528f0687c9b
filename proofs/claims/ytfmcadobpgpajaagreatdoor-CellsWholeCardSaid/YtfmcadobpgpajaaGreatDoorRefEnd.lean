/- Which full decompositions come to an end, by the reference. -/
import Derived.Test.YtfmcadobpgpajaaGreatDoorRefTell
namespace Go.Proofs.YtfmcadobpgpajaaGreatDoor.Rf
open Go Go.RowKit Go.Shelf Go.Proofs.YtfmcadobpgpajaaGreatDoor.Sp Go.Proofs.YtfmcadobpgpajaaGreatDoor.Pr Go.Proofs.YtfmcadobpgpajaaGreatDoor.Rowl
set_option linter.unusedSimpArgs false

/-! ### plain -/
def blockB (L : List (Int × List Int)) (ks : List Bool) (x : Int) : Bool := (L.zip ks).all fun p => p.1.1 != x || p.2
def Sound (D : PD) (ks : List Bool) : Prop := ∀ (m : Nat) (p : Int × List Int), D.decomps[m]? = some p → ks[m]? = some true → ∃ n, Full D p.1 n
def Closed (D : PD) (ks : List Bool) (i : Nat) : Prop := ∀ (m : Nat) (p : Int × List Int), m < i → D.decomps[m]? = some p → p.2.all (blockB D.decomps ks) = true → ks[m]? = some true
def cnt (ks : List Bool) : Nat := ks.countP (fun b => !b)
theorem block_true {L : List (Int × List Int)} {ks : List Bool} (hl : ks.length = L.length) {x : Int} (h : blockB L ks x = true) {m : Nat} {p : Int × List Int} (hp : L[m]? = some p) (he : p.1 = x) : ks[m]? = some true := by
  have hm : m < L.length := (List.getElem?_eq_some_iff.1 hp).1
  have hk : ks[m]? = some ks[m] := List.getElem?_eq_getElem (by omega)
  have hz : (L.zip ks)[m]? = some (p, ks[m]) := by rw [List.getElem?_zip_eq_some]; exact ⟨hp, hk⟩
  have := List.all_eq_true.1 h _ (List.mem_of_getElem? hz)
  simp only [Bool.or_eq_true, bne_iff_ne, ne_eq] at this
  rw [hk, this.resolve_left (fun e => e he)]
theorem block_false {L : List (Int × List Int)} {ks : List Bool} {x : Int} (h : blockB L ks x = false) : ∃ (m : Nat) (p : Int × List Int), L[m]? = some p ∧ p.1 = x ∧ ks[m]? = some false := by
  unfold blockB at h
  rw [List.all_eq_false] at h
  obtain ⟨⟨p, b⟩, hm, hb⟩ := h
  obtain ⟨m, hz⟩ := List.mem_iff_getElem?.1 hm
  rw [List.getElem?_zip_eq_some] at hz
  simp only [Bool.or_eq_true, bne_iff_ne, ne_eq, not_or, Decidable.not_not, Bool.not_eq_true] at hb
  exact ⟨m, p, hz.1, hb.1, by rw [hz.2, hb.2]⟩
theorem full_jamo {st : St} (hok : StOk st) {x : Int} (h : isJamo x = true) (hs : isSyl x = false) : Full st.d x 1 := Full.leaf (by
  unfold decompOf
  rw [hs]
  simp only [Bool.false_eq_true, if_false]
  rw [show lookD st.d.decomps x = none from lookD_none.2 (fun hm => by
    obtain ⟨p, hp, e⟩ := List.mem_map.1 hm
    have := (hok.plain p hp).2
    rw [e, h] at this
    cases this)]
  rfl)
theorem full_syl {st : St} (hok : StOk st) {x : Int} (h : isSyl x = true) : ∃ n, Full st.d x n := by
  have hb : 44032 ≤ x ∧ x < 55204 := by simpa [isSyl] using h
  have j1 : isJamo (4352 + (x - 44032) / 588) = true := by simp [isJamo]; omega
  have s1 : isSyl (4352 + (x - 44032) / 588) = false := by simp [isSyl]; omega
  have j2 : isJamo (4449 + (x - 44032) / 28 % 21) = true := by simp [isJamo]; omega
  have s2 : isSyl (4449 + (x - 44032) / 28 % 21) = false := by simp [isSyl]; omega
  have e : decompOf st.d x = sylOf x := by unfold decompOf; rw [if_pos h]
  by_cases h0 : (x - 44032) % 28 = 0
  · refine ⟨2, Sums.full (by rw [e]; simp [sylOf]) ?_⟩
    · rw [e]
      simp only [sylOf, h0, if_true, List.append_nil]
      exact .cons 0 1 _ _ _ (full_jamo hok j1 s1) (.cons _ 1 _ _ _ (full_jamo hok j2 s2) (.nil _))
  · have j3 : isJamo (4519 + (x - 44032) % 28) = true := by simp [isJamo]; omega
    have s3 : isSyl (4519 + (x - 44032) % 28) = false := by simp [isSyl]; omega
    refine ⟨3, Sums.full (by rw [e]; simp [sylOf]) ?_⟩
    · rw [e]
      simp only [sylOf, h0, if_false, List.cons_append, List.nil_append]
      exact .cons 0 1 _ _ _ (full_jamo hok j1 s1) (.cons _ 1 _ _ _ (full_jamo hok j2 s2) (.cons _ 1 _ _ _ (full_jamo hok j3 s3) (.nil _)))
theorem sums_of {D : PD} : ∀ (l : List Int) (a : Nat), (∀ x ∈ l, ∃ n, Full D x n) → ∃ n, Sums D a l n
  | [], a, _ => ⟨a, .nil a⟩
  | x :: l, a, h => by
    obtain ⟨b, hb⟩ := h x (by simp)
    obtain ⟨n, hn⟩ := sums_of l (min (a + b) 9) (fun y hy => h y (by simp [hy]))
    exact ⟨n, .cons a b n x l hb hn⟩
theorem own_decomp {st : St} (hok : StOk st) {m : Nat} {p : Int × List Int} (hp : st.d.decomps[m]? = some p) : decompOf st.d p.1 = p.2 ∧ p.2 ≠ [] := by
  have hm := List.mem_of_getElem? hp
  refine ⟨?_, (hok.d8 p hm).2⟩
  unfold decompOf
  rw [(hok.plain p hm).1]
  simp only [Bool.false_eq_true, if_false]
  rw [lookD_mem' hok.nodup (show (p.1, p.2) ∈ st.d.decomps from hm)]
  rfl
theorem sound_step {st : St} (hok : StOk st) {ks : List Bool} (hl : ks.length = st.d.decomps.length) (hs : Sound st.d ks) {m : Nat} {p : Int × List Int} (hp : st.d.decomps[m]? = some p) (ha : p.2.all (blockB st.d.decomps ks) = true) : ∃ n, Full st.d p.1 n := by
  obtain ⟨h1, h2⟩ := own_decomp hok hp
  have hx : ∀ x ∈ p.2, ∃ n, Full st.d x n := fun x hx => by
    have hb := List.all_eq_true.1 ha x hx
    by_cases hsy : isSyl x = true
    · exact full_syl hok hsy
    · cases hlk : lookD st.d.decomps x with
      | none =>
        refine ⟨1, Full.leaf ?_⟩
        unfold decompOf
        rw [if_neg hsy, hlk]
        rfl
      | some ps =>
        obtain ⟨j, hj⟩ := List.mem_iff_getElem?.1 (lookD_in hlk)
        exact hs j _ hj (block_true hl hb hj rfl)
  obtain ⟨n, hn⟩ := sums_of p.2 0 hx
  exact ⟨n, Sums.full (by rw [h1]; exact h2) (by rw [h1]; exact hn)⟩
/-- What is not known at the end has none. -/
theorem closed_none {st : St} (hok : StOk st) {ks : List Bool} (hc : Closed st.d ks st.d.decomps.length) {m : Nat} {p : Int × List Int} (hp : st.d.decomps[m]? = some p) (hk : ks[m]? = some false) : ∀ n, ¬ Full st.d p.1 n := by
  have key : ∀ (k : Nat) (m : Nat) (p : Int × List Int), st.d.decomps[m]? = some p → ks[m]? = some false → ∀ n, fullGo st.d k p.1 ≠ some n := by
    intro k
    induction k with
    | zero => intro m p _ _ n h; cases h
    | succ k ih =>
      intro m p hp hk n h
      obtain ⟨h1, h2⟩ := own_decomp hok hp
      rw [fullGo, h1, if_neg h2] at h
      have ha : p.2.all (blockB st.d.decomps ks) = false := by
        cases ha : p.2.all (blockB st.d.decomps ks) with
        | false => rfl
        | true =>
          have := hc m p (List.getElem?_eq_some_iff.1 hp).1 hp ha
          rw [hk] at this
          cases this
      rw [List.all_eq_false] at ha
      obtain ⟨x, hx, hb⟩ := ha
      obtain ⟨j, pj, hj, e, hkj⟩ := block_false (by simpa using hb)
      obtain ⟨b, hfb⟩ := sumFrom_parts _ _ _ h x hx
      subst e
      exact ih j pj hj hkj b hfb
  rintro n ⟨k, hkk⟩
  exact key k m p hp hk n hkk
theorem cnt_set {ks : List Bool} {i : Nat} (h : ks[i]? = some false) : cnt (ks.set i true) < cnt ks := by
  unfold cnt
  induction ks generalizing i with
  | nil => simp at h
  | cons b ks ih =>
    cases i with
    | zero =>
      simp only [List.getElem?_cons_zero, Option.some.injEq] at h
      subst h
      simp
    | succ i =>
      have := ih (i := i) (by simpa using h)
      simp only [List.set_cons_succ, List.countP_cons]
      omega
theorem set_same {ks : List Bool} {i : Nat} {b : Bool} (h : ks[i]? = some b) : ks.set i b = ks := by
  apply List.ext_getElem?
  intro j
  rw [List.getElem?_set]
  split
  · rename_i e
    subst e
    split
    · exact h.symm
    · rename_i hl
      rw [List.getElem?_eq_none (by omega)] at h
      cases h
  · rfl

/-! ### the list of what is known, as it lies in memory -/
def KS (X : Nat) (W : World) (ks : List Bool) : Prop := W.heap[X]? = some (.cells (ks.map Value.bool).toArray 4 (0, 0))
theorem KS.at {X : Nat} {W : World} {ks : List Bool} (h : KS X W ks) {i : Nat} {b : Bool} (hi : ks[i]? = some b) : W.cell? ⟨X, i, none⟩ = some (.bool b) := by
  rw [cell_of_row W X i _ _ (0, 0) h]
  simp [hi]
theorem KS.set {X : Nat} {W : World} {ks : List Bool} (h : KS X W ks) (i : Nat) (b : Bool) : KS X (W.setCell ⟨X, i, none⟩ (.bool b)) (ks.set i b) := by
  unfold KS
  rw [heap_setCell_same W X i _ _ (.bool b) h]
  simp [List.map_set]
def cntW (X : Nat) (W : World) : Nat := match W.heap[X]? with | some (.cells cs _ _) => cs.toList.countP (fun v => match v with | .bool false => true | _ => false) | _ => 0
theorem KS.count {X : Nat} {W : World} {ks : List Bool} (h : KS X W ks) : cntW X W = cnt ks := by
  unfold cntW Rf.cnt
  rw [h]
  simp only [List.countP_map]
  congr 1
  funext b
  cases b <;> rfl
def boolN : Value → Nat
  | .bool true => 1
  | _ => 0
def EI (X : Nat) (w : World) (D : PD) (ks : List Bool) (more : Bool) (wr : World) : Prop := KS X wr ks ∧ ks.length = D.decomps.length ∧ Sound D ks ∧ Below X w wr ∧ (more = false → Closed D ks D.decomps.length)
def PI (X : Nat) (w : World) (D : PD) (ks0 ks : List Bool) (more : Bool) (i : Nat) (wr : World) : Prop := KS X wr ks ∧ ks.length = D.decomps.length ∧ Sound D ks ∧ Below X w wr ∧ (more = false → Closed D ks i) ∧ cnt ks ≤ cnt ks0 ∧ (more = true → cnt ks < cnt ks0)
theorem PI.start {X : Nat} {w wr : World} {D : PD} {ks : List Bool} {more : Bool} (h : EI X w D ks more wr) : PI X w D ks ks false 0 wr := ⟨h.1, h.2.1, h.2.2.1, h.2.2.2.1, fun _ m p hm => absurd hm (Nat.not_lt_zero m), Nat.le_refl _, fun e => by cases e⟩
theorem PI.done {X : Nat} {w wr : World} {D : PD} {ks0 ks : List Bool} {more : Bool} (h : PI X w D ks0 ks more D.decomps.length wr) : EI X w D ks more wr := ⟨h.1, h.2.1, h.2.2.1, h.2.2.2.1, h.2.2.2.2.1⟩
theorem PI.step {X i : Nat} {w wr : World} {st : St} (hok : StOk st) {ks0 ks : List Bool} {more : Bool} (h : PI X w st.d ks0 ks more i wr) {wz : World} (hz : wz.heap = wr.heap) (hb : Below X w wz) {p : Int × List Int} (hp : st.d.decomps[i]? = some p) {b a : Bool} (hk : ks[i]? = some b) (ha : a = p.2.all (blockB st.d.decomps ks)) :
    PI X w st.d ks0 (ks.set i (b || a)) (more || (a && !b)) (i + 1) (wz.setCell ⟨X, i, none⟩ (.bool (b || a))) := by
  obtain ⟨h1, h2, h3, h4, h5, h6, h7⟩ := h
  have hks : KS X wz ks := by unfold KS; rw [hz]; exact h1
  refine ⟨hks.set i _, by simpa using h2, ?_, hb.setCell (p := ⟨X, i, none⟩) (Nat.le_refl _) _, ?_, ?_, ?_⟩
  · intro m p' hp' hm
    rw [List.getElem?_set] at hm
    split at hm
    · rename_i e
      subst e
      rw [hp] at hp'
      injection hp' with hp'
      subst hp'
      split at hm
      · simp only [Option.some.injEq, Bool.or_eq_true] at hm
        rcases hm with hm | hm
        · exact h3 i p hp (by rw [hk, hm])
        · exact sound_step hok h2 h3 hp (by rw [← ha, hm])
      · cases hm
    · exact h3 m p' hp' hm
  · intro hmore
    have hmore : more = false ∧ (a = false ∨ b = true) := by
      cases more <;> cases a <;> cases b <;> simp_all
    have hse : ks.set i (b || a) = ks := set_same (by
      rw [hk]
      rcases hmore.2 with e | e
      · rw [e]; simp
      · rw [e]; rfl)
    rw [hse]
    intro m p' hm hp' hall
    by_cases hmi : m < i
    · exact h5 hmore.1 m p' hmi hp' hall
    · have : m = i := by omega
      subst this
      rw [hp] at hp'
      injection hp' with hp'
      subst hp'
      rcases hmore.2 with e | e
      · rw [← ha, e] at hall; cases hall
      · rw [hk, e]
  · cases hab : (b || a) with
    | false => rw [set_same (by rw [hk]; simp at hab; rw [hab.1])]; exact h6
    | true =>
      cases b with
      | true => rw [set_same hk]; exact h6
      | false => exact Nat.le_trans (Nat.le_of_lt (cnt_set hk)) h6
  · intro hmore
    simp only [Bool.or_eq_true, Bool.and_eq_true, Bool.not_eq_true'] at hmore
    by_cases hba : a = true ∧ b = false
    · rw [hba.1, hba.2]
      exact Nat.lt_of_lt_of_le (cnt_set (by rw [hk, hba.2])) h6
    · rcases hmore with hm | hm
      · cases hab : (b || a) with
        | false => rw [set_same (by rw [hk]; simp at hab; rw [hab.1])]; exact h7 hm
        | true =>
          cases b with
          | true => rw [set_same hk]; exact h7 hm
          | false => exact Nat.lt_trans (cnt_set hk) (h7 hm)
      · exact absurd hm hba
end Go.Proofs.YtfmcadobpgpajaaGreatDoor.Rf
