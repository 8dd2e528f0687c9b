/- What the reference answers of points: Decomp, Fold; Which full decompositions come to an end, by the reference; The reference's end: the walk; The reference's full decompositions, counted; The reference's lines and their words say the same as the spec's: plain; The reference's lines, each by its kind: what stands behind it in memory; What the reference answers of points: Class, Kind, Fold. -/
import Derived.Test.YtikpkjpnehkbfaaGreatDoorNrC
set_option linter.unusedSimpArgs false
namespace Go.Proofs.YtikpkjpnehkbfaaGreatDoor.Rf
open Go Go.RowKit Go.Shelf Go.Proofs.YtikpkjpnehkbfaaGreatDoor.Sp Go.Proofs.YtikpkjpnehkbfaaGreatDoor.Pr Go.Proofs.YtikpkjpnehkbfaaGreatDoor.Rowl
theorem PtsB.read {W : World} {tv : Value} {ps : List Int} (h : PtsB W tv ps) : ReadPts W tv ps := by
  obtain ⟨b, off, cap, cs, e, hb, h1, h2, hc⟩ := h
  exact ⟨by omega, .inr ⟨b, off, cap, e, fun i x hi => by rw [cell_of_row W b (off + i) cs _ (0, 0) hb]; exact hc i x hi⟩⟩
set_option maxHeartbeats 4000000 in
set_option maxRecDepth 100000 in
theorem copy_calls (va : Value) (l : List Int) (w : World) (h : ReadPts w va l) (hl : l.length ≤ 1048576) : Calls Tryz.prog 153 #[va] w fun e w' => ∃ v', e = .returned v' ∧ OwnPts w.heap.size w' v' l ∧ Below w.heap.size w w' := by
  obtain ⟨A, c, rfl⟩ := h.slice
  have H := Lib.hid h
  clear h
  go_enter Tryz.func153, Tryz.ntmps153
  go_wp2
  go_loopw [3, 4] (fun vo vi wr => ∃ (k : Nat) (A : Option Addr) (C : Nat), vi = .int .i64 k ∧ vo = .slice A k C ∧ k ≤ l.length ∧ Hid (OwnPts w.heap.size wr (.slice A k C) (l.take k)) ∧ Hid (Below w.heap.size w wr)) (fun _ vi _ => l.length - (intOf vi).toNat)
  case atStart => exact ⟨0, none, 0, rfl, rfl, by omega, Lib.hid (own_nil' _ _), Lib.hid (Below.refl _ _)⟩
  case round =>
    obtain ⟨k, A1, C1, rfl, rfl, hk, HO, HR⟩ := hrel
    by_cases hlt : k < l.length
    · obtain ⟨y, hy⟩ : ∃ y, l[k]? = some y := ⟨_, List.getElem?_eq_getElem hlt⟩
      obtain ⟨b, off, rfl⟩ : ∃ b off, A = some ⟨b, off, none⟩ := by
        obtain ⟨b, off, c', hA⟩ := H.out.pos (by omega)
        simp only [Value.slice.injEq] at hA
        exact ⟨b, off, hA.1⟩
      have hcy := cell_later HR.out (H.out.cell k y hy)
      have htk : l.take (k + 1) = l.take k ++ [y] := by rw [List.take_add_one, hy]; rfl
      have HT := Lib.hid htk
      have HTL : Hid ((l.take (k + 1)).length = k + 1) := Lib.hid (by rw [List.length_take]; omega)
      have hkl : (l.take k).length ≤ 1048577 := by rw [List.length_take]; omega
      have hWz : w.heap.size ≤ wr.heap.size := HR.out.size
      clear hy htk
      go_wp2_with (at_builtin; go_must (refine wpList_append_pt rfl _ _ rfl w.heap.size _ (l.take k) rfl HO.out rfl hkl hWz ?_; intro v2 w2 ho2 hb2; obtain ⟨A2, C2, hv2⟩ := own_slice ho2; rw [← HT.out, HTL.out] at hv2; subst hv2; have HO2 : Hid (OwnPts w.heap.size w2 (.slice A2 (k + 1) C2) (l.take (k + 1))) := Lib.hid (by rw [HT.out]; exact ho2); have HR2 := Lib.hid (HR.out.trans hb2); clear ho2 hb2))
      refine ⟨⟨k + 1, A2, C2, by go_num, rfl, by omega, HO2, HR2⟩, ?_⟩
      simp [intOf]
      omega
    · have hke : k = l.length := by omega
      subst hke
      have HE : Hid (OwnPts w.heap.size wr (.slice A1 l.length C1) l) := Lib.hid (by have := HO.out; rwa [List.take_of_length_le (Nat.le_refl _)] at this)
      clear HO
      go_wp2
      go_ret
      exact ⟨_, rfl, HE.out, HR.out⟩
def RefAt (q : Nat) (W : World) (st : St) : Prop := (∃ n₀ v xs n, Ref4 q n₀ W v xs n ∧ Means W xs n st) ∧ StOk st ∧ st.d.classes.length ≤ 1048576 ∧ st.d.kinds.length ≤ 1048576 ∧ st.d.folds.length ≤ 1048576 ∧ st.d.decomps.length ≤ 1048576
theorem RefAt.on {q : Nat} {W W' : World} {st : St} (h : RefAt q W st) (hb : Below W.heap.size W W') : RefAt q W' st := by
  obtain ⟨⟨n₀, v, xs, n, h1, h2⟩, h3⟩ := h
  exact ⟨⟨n₀, v, xs, n, h1.later hb, h2.later hb⟩, h3⟩
def LinesAt (W : World) (q i : Nat) (l : List (Int × List Int)) : Prop := ∃ A c, W.cell? ⟨q, i, none⟩ = some (.slice A l.length c) ∧ l.length ≤ maxLen ∧ ∀ (j : Nat) (p : Int × List Int), l[j]? = some p → ∃ g, A = some ⟨g, 0, none⟩ ∧ ∃ tv k, W.cell? ⟨g, j * 3, none⟩ = some (.int .i64 p.1) ∧ W.cell? ⟨g, j * 3 + 1, none⟩ = some tv ∧ W.cell? ⟨g, j * 3 + 2, none⟩ = some (.int .i64 k) ∧ PtsB W tv p.2
theorem RefAt.decomps {q : Nat} {W : World} {st : St} (h : RefAt q W st) : LinesAt W q 3 st.d.decomps := by
  obtain ⟨⟨n₀, v, xs, n, h1, h2⟩, h3⟩ := h
  obtain ⟨A, c, e, hc⟩ := line_cells (h1.own 3 (by decide)) h2.d.1 h2.d.2
  have hl := own_len (h1.own 3 (by decide))
  rw [h2.d.2] at hl
  refine ⟨A, c, by rw [cell_of_row W q 3 _ _ (0, 0) h1.hp, ← e]; rfl, hl, fun j p hp => ?_⟩
  obtain ⟨g, e1, tv, k, a1, a2, a3, _, a5⟩ := hc j p hp
  exact ⟨g, e1, tv, k, a1, a2, a3, a5⟩
theorem look_first {l : List (Int × List Int)} {r : Int} {i : Nat} {p : Int × List Int} (h : l[i]? = some p) (e : p.1 = r) (hn : ∀ (j : Nat) (p' : Int × List Int), j < i → l[j]? = some p' → p'.1 ≠ r) : lookD l r = some p.2 := by
  unfold lookD
  have : l.find? (fun p => p.1 == r) = some p := by
    obtain ⟨hi, e2⟩ := List.getElem?_eq_some_iff.1 h
    rw [List.find?_eq_some_iff_getElem]
    refine ⟨by simpa using e, i, hi, e2, fun j hj => ?_⟩
    simpa using hn j _ hj (List.getElem?_eq_getElem (by omega))
  rw [this]
  rfl
set_option maxHeartbeats 8000000 in
set_option maxRecDepth 100000 in
theorem rdecomp_look (q : Nat) (st : St) (r : Int) (hr0 : -2147483648 ≤ r) (hr1 : r ≤ 2147483647) (w : World) (h : RefAt q w st) (hs : isSyl r = false) : Calls Tryz.prog 131 #[.pointer (some ⟨q, 0, none⟩), .int .i32 r] w fun e w' => ∃ v', e = .returned v' ∧ OwnPts w.heap.size w' v' (decompOf st.d r) ∧ Below w.heap.size w w' := by
  obtain ⟨A, c, hq, hlen, hc⟩ := h.decomps
  have h8 := Lib.hid h.2.1.d8
  unfold maxLen at hlen
  have HC := Lib.hid hc
  have HD : Hid (decompOf st.d r = (lookD st.d.decomps r).getD []) := Lib.hid (by unfold decompOf; rw [hs]; rfl)
  clear h hc
  generalize st.d.decomps = l at *
  go_enter Tryz.func131, Tryz.ntmps131
  go_wp2_with (go_at_call 101; (with_reducible refine (syl_calls _ _).mono ?_); rintro e w6 ⟨rfl, hw⟩; subst w6)
  go_loop [7] (fun vi => ∃ k : Nat, vi = .int .i64 k ∧ k ≤ l.length ∧ Hid (∀ (j : Nat) (p' : Int × List Int), j < k → l[j]? = some p' → p'.1 ≠ r)) (fun vi => l.length - (intOf vi).toNat)
  case atStart => exact ⟨0, rfl, by omega, Lib.hid (fun j p hj => by omega)⟩
  case round =>
    obtain ⟨k, rfl, hk, HI⟩ := hrel
    by_cases hlt : k < l.length
    · obtain ⟨p, hp⟩ : ∃ p, l[k]? = some p := ⟨_, List.getElem?_eq_getElem hlt⟩
      obtain ⟨g, rfl, tv, kk, c0, c1, _, hpt⟩ := HC.out k p hp
      have HP := Lib.hid hp
      clear hp
      by_cases hr : p.1 = r
      · have HL := Lib.hid (look_first HP.out hr HI.out)
        have hb : (p.1 == r) = true := beq_iff_eq.2 hr
        have HCP := Lib.hid (copy_calls tv p.2 w (PtsB.read hpt) (by have := (h8.out p (List.mem_of_getElem? HP.out)).1; omega))
        obtain ⟨At, Ct, rfl⟩ := (PtsB.read hpt).slice
        generalize p.1 = p1 at *
        clear hr hpt
        go_wp2_with (go_at_call 153; go_must (refine HCP.out.mono ?_; rintro e w5 ⟨v', rfl, ho, hb5⟩))
        go_ret
        rw [HD.out, HL.out]
        exact ⟨v', rfl, ho, hb5⟩
      · have hb : (p.1 == r) = false := beq_eq_false_iff_ne.2 hr
        have HN : Hid (∀ (j : Nat) (p' : Int × List Int), j < k + 1 → l[j]? = some p' → p'.1 ≠ r) := Lib.hid (fun j p' hj hp' => by
          by_cases hjk : j < k
          · exact HI.out j p' hjk hp'
          · have : j = k := by omega
            subst this
            rw [HP.out] at hp'
            injection hp' with hp'
            subst hp'
            exact hr)
        clear HP hpt
        generalize p.1 = p1 at *
        clear hr
        go_wp2
        go_round
        case rel => exact ⟨k + 1, by go_num, by omega, HN⟩
        case measure => simp [intOf]; omega
    · have hke : k = l.length := by omega
      subst hke
      have HR : Hid (lookD l r = none) := Lib.hid (look_take (fun i p hp => HI.out i p (List.getElem?_eq_some_iff.1 hp).1 hp))
      go_wp2
      go_ret
      rw [HD.out, HR.out]
      exact ⟨_, rfl, own_nil' _ _, Below.refl _ _⟩
set_option maxHeartbeats 4000000 in
set_option maxRecDepth 100000 in
theorem rdecomp_syl (q : Nat) (D : PD) (r : Int) (w : World) (hr : isSyl r = true) : Calls Tryz.prog 131 #[.pointer (some ⟨q, 0, none⟩), .int .i32 r] w fun e w' => ∃ v', e = .returned v' ∧ OwnPts w.heap.size w' v' (decompOf D r) ∧ Below w.heap.size w w' := by
  have h0 : 44032 ≤ r ∧ r < 55204 := by simpa [isSyl] using hr
  obtain ⟨h1, h2⟩ := h0
  have hv : (r - 44032) % 588 / 28 = (r - 44032) / 28 % 21 := by omega
  by_cases h28 : (r - 44032) % 28 = 0
  · have HD : Hid (decompOf D r = [4352 + (r - 44032) / 588, 4449 + (r - 44032) % 588 / 28]) := Lib.hid (by
      unfold decompOf sylOf
      rw [if_pos hr, hv]
      simp [h28])
    have HO := Lib.hid (ownsRow_laid (e := 21) (base := w.heap.size) (size := 1) (n := 2) w [.int .i32 (4352 + (r - 44032) / 588), .int .i32 (4449 + (r - 44032) % 588 / 28)] (Nat.le_refl _) (by simp [maxLen]) rfl)
    have hb28 : ((r - 44032) % 28 != 0) = false := by rw [h28]; rfl
    clear hv h28
    go_enter Tryz.func131, Tryz.ntmps131
    go_wp2_with (go_at_call 101; (with_reducible refine (syl_calls _ _).mono ?_); rintro e w6 ⟨rfl, hw⟩; subst w6)
    go_ret
    rw [HD.out]
    exact ⟨_, rfl, HO.out, (Below.refl _ w).alloc (Nat.le_refl _) _⟩
  · have HD : Hid (decompOf D r = [4352 + (r - 44032) / 588, 4449 + (r - 44032) % 588 / 28] ++ [4519 + (r - 44032) % 28]) := Lib.hid (by
      unfold decompOf sylOf
      rw [if_pos hr, hv]
      simp [h28])
    have HO : Hid (OwnPts w.heap.size (w.alloc (.cells #[.int .i32 (4352 + (r - 44032) / 588), .int .i32 (4449 + (r - 44032) % 588 / 28)] 21)) (.slice (some ⟨w.heap.size, 0, none⟩) 2 2) [4352 + (r - 44032) / 588, 4449 + (r - 44032) % 588 / 28]) := Lib.hid (ownsRow_laid (e := 21) (base := w.heap.size) (size := 1) (n := 2) w [.int .i32 (4352 + (r - 44032) / 588), .int .i32 (4449 + (r - 44032) % 588 / 28)] (Nat.le_refl _) (by simp [maxLen]) rfl)
    have hb28 : ((r - 44032) % 28 != 0) = true := bne_iff_ne.2 h28
    clear hv h28
    go_enter Tryz.func131, Tryz.ntmps131
    go_wp2_with (first
      | (go_at_call 101; (with_reducible refine (syl_calls _ _).mono ?_); rintro e w6 ⟨rfl, hw⟩; subst w6)
      | (at_builtin; go_must (refine wpList_append_pt rfl _ _ rfl w.heap.size _ [4352 + (r - 44032) / 588, 4449 + (r - 44032) % 588 / 28] rfl HO.out (by rw [World.size_alloc]; rfl) (by simp) (by rw [World.size_alloc]; omega) ?_; intro v2 w2 ho2 hb2)))
    go_ret
    rw [HD.out]
    exact ⟨_, rfl, ho2, ((Below.refl _ w).alloc (Nat.le_refl _) _).trans hb2⟩
theorem rdecomp_calls (q : Nat) (st : St) (r : Int) (hr0 : -2147483648 ≤ r) (hr1 : r ≤ 2147483647) (w : World) (h : RefAt q w st) : Calls Tryz.prog 131 #[.pointer (some ⟨q, 0, none⟩), .int .i32 r] w fun e w' => ∃ v', e = .returned v' ∧ OwnPts w.heap.size w' v' (decompOf st.d r) ∧ Below w.heap.size w w' := by
  by_cases hs : isSyl r = true
  · exact rdecomp_syl q st.d r w hs
  · exact rdecomp_look q st r hr0 hr1 w h (by simpa using hs)
end Go.Proofs.YtikpkjpnehkbfaaGreatDoor.Rf
namespace Go.Proofs.YtikpkjpnehkbfaaGreatDoor.Rf
open Go Go.RowKit Go.Shelf Go.Proofs.YtikpkjpnehkbfaaGreatDoor.Sp Go.Proofs.YtikpkjpnehkbfaaGreatDoor.Pr Go.Proofs.YtikpkjpnehkbfaaGreatDoor.Rowl
def blockB (L : List (Int × List Int)) (ks : List Bool) (x : Int) : Bool := (L.zip ks).all fun p => p.1.1 != x || p.2
def Sound (D : PD) (ks : List Bool) : Prop := ∀ (m : Nat) (p : Int × List Int), D.decomps[m]? = some p → ks[m]? = some true → ∃ n, Full D p.1 n
def Closed (D : PD) (ks : List Bool) (i : Nat) : Prop := ∀ (m : Nat) (p : Int × List Int), m < i → D.decomps[m]? = some p → p.2.all (blockB D.decomps ks) = true → ks[m]? = some true
def cnt (ks : List Bool) : Nat := ks.countP (fun b => !b)
theorem block_true {L : List (Int × List Int)} {ks : List Bool} (hl : ks.length = L.length) {x : Int} (h : blockB L ks x = true) {m : Nat} {p : Int × List Int} (hp : L[m]? = some p) (he : p.1 = x) : ks[m]? = some true := by
  have hm : m < L.length := (List.getElem?_eq_some_iff.1 hp).1
  have hk : ks[m]? = some ks[m] := List.getElem?_eq_getElem (by omega)
  have hz : (L.zip ks)[m]? = some (p, ks[m]) := by rw [List.getElem?_zip_eq_some]; exact ⟨hp, hk⟩
  have := List.all_eq_true.1 h _ (List.mem_of_getElem? hz)
  simp only [Bool.or_eq_true, bne_iff_ne, ne_eq] at this
  rw [hk, this.resolve_left (fun e => e he)]
theorem block_false {L : List (Int × List Int)} {ks : List Bool} {x : Int} (h : blockB L ks x = false) : ∃ (m : Nat) (p : Int × List Int), L[m]? = some p ∧ p.1 = x ∧ ks[m]? = some false := by
  unfold blockB at h
  rw [List.all_eq_false] at h
  obtain ⟨⟨p, b⟩, hm, hb⟩ := h
  obtain ⟨m, hz⟩ := List.mem_iff_getElem?.1 hm
  rw [List.getElem?_zip_eq_some] at hz
  simp only [Bool.or_eq_true, bne_iff_ne, ne_eq, not_or, Decidable.not_not, Bool.not_eq_true] at hb
  exact ⟨m, p, hz.1, hb.1, by rw [hz.2, hb.2]⟩
theorem full_jamo {st : St} (hok : StOk st) {x : Int} (h : isJamo x = true) (hs : isSyl x = false) : Full st.d x 1 := Full.leaf (by
  unfold decompOf
  rw [hs]
  simp only [Bool.false_eq_true, if_false]
  rw [show lookD st.d.decomps x = none from lookD_none.2 (fun hm => by
    obtain ⟨p, hp, e⟩ := List.mem_map.1 hm
    have := (hok.plain p hp).2
    rw [e, h] at this
    cases this)]
  rfl)
theorem full_syl {st : St} (hok : StOk st) {x : Int} (h : isSyl x = true) : ∃ n, Full st.d x n := by
  have hb : 44032 ≤ x ∧ x < 55204 := by simpa [isSyl] using h
  have j1 : isJamo (4352 + (x - 44032) / 588) = true := by simp [isJamo]; omega
  have s1 : isSyl (4352 + (x - 44032) / 588) = false := by simp [isSyl]; omega
  have j2 : isJamo (4449 + (x - 44032) / 28 % 21) = true := by simp [isJamo]; omega
  have s2 : isSyl (4449 + (x - 44032) / 28 % 21) = false := by simp [isSyl]; omega
  have e : decompOf st.d x = sylOf x := by unfold decompOf; rw [if_pos h]
  by_cases h0 : (x - 44032) % 28 = 0
  · refine ⟨2, Sums.full (by rw [e]; simp [sylOf]) ?_⟩
    · rw [e]
      simp only [sylOf, h0, if_true, List.append_nil]
      exact .cons 0 1 _ _ _ (full_jamo hok j1 s1) (.cons _ 1 _ _ _ (full_jamo hok j2 s2) (.nil _))
  · have j3 : isJamo (4519 + (x - 44032) % 28) = true := by simp [isJamo]; omega
    have s3 : isSyl (4519 + (x - 44032) % 28) = false := by simp [isSyl]; omega
    refine ⟨3, Sums.full (by rw [e]; simp [sylOf]) ?_⟩
    · rw [e]
      simp only [sylOf, h0, if_false, List.cons_append, List.nil_append]
      exact .cons 0 1 _ _ _ (full_jamo hok j1 s1) (.cons _ 1 _ _ _ (full_jamo hok j2 s2) (.cons _ 1 _ _ _ (full_jamo hok j3 s3) (.nil _)))
theorem sums_of {D : PD} : ∀ (l : List Int) (a : Nat), (∀ x ∈ l, ∃ n, Full D x n) → ∃ n, Sums D a l n
  | [], a, _ => ⟨a, .nil a⟩
  | x :: l, a, h => by
    obtain ⟨b, hb⟩ := h x (by simp)
    obtain ⟨n, hn⟩ := sums_of l (min (a + b) 9) (fun y hy => h y (by simp [hy]))
    exact ⟨n, .cons a b n x l hb hn⟩
theorem own_decomp {st : St} (hok : StOk st) {m : Nat} {p : Int × List Int} (hp : st.d.decomps[m]? = some p) : decompOf st.d p.1 = p.2 ∧ p.2 ≠ [] := by
  have hm := List.mem_of_getElem? hp
  refine ⟨?_, (hok.d8 p hm).2⟩
  unfold decompOf
  rw [(hok.plain p hm).1]
  simp only [Bool.false_eq_true, if_false]
  rw [lookD_mem' hok.nodup (show (p.1, p.2) ∈ st.d.decomps from hm)]
  rfl
theorem sound_step {st : St} (hok : StOk st) {ks : List Bool} (hl : ks.length = st.d.decomps.length) (hs : Sound st.d ks) {m : Nat} {p : Int × List Int} (hp : st.d.decomps[m]? = some p) (ha : p.2.all (blockB st.d.decomps ks) = true) : ∃ n, Full st.d p.1 n := by
  obtain ⟨h1, h2⟩ := own_decomp hok hp
  have hx : ∀ x ∈ p.2, ∃ n, Full st.d x n := fun x hx => by
    have hb := List.all_eq_true.1 ha x hx
    by_cases hsy : isSyl x = true
    · exact full_syl hok hsy
    · cases hlk : lookD st.d.decomps x with
      | none =>
        refine ⟨1, Full.leaf ?_⟩
        unfold decompOf
        rw [if_neg hsy, hlk]
        rfl
      | some ps =>
        obtain ⟨j, hj⟩ := List.mem_iff_getElem?.1 (lookD_in hlk)
        exact hs j _ hj (block_true hl hb hj rfl)
  obtain ⟨n, hn⟩ := sums_of p.2 0 hx
  exact ⟨n, Sums.full (by rw [h1]; exact h2) (by rw [h1]; exact hn)⟩
theorem closed_none {st : St} (hok : StOk st) {ks : List Bool} (hc : Closed st.d ks st.d.decomps.length) {m : Nat} {p : Int × List Int} (hp : st.d.decomps[m]? = some p) (hk : ks[m]? = some false) : ∀ n, ¬ Full st.d p.1 n := by
  have key : ∀ (k : Nat) (m : Nat) (p : Int × List Int), st.d.decomps[m]? = some p → ks[m]? = some false → ∀ n, fullGo st.d k p.1 ≠ some n := by
    intro k
    induction k with
    | zero => intro m p _ _ n h; cases h
    | succ k ih =>
      intro m p hp hk n h
      obtain ⟨h1, h2⟩ := own_decomp hok hp
      rw [fullGo, h1, if_neg h2] at h
      have ha : p.2.all (blockB st.d.decomps ks) = false := by
        cases ha : p.2.all (blockB st.d.decomps ks) with
        | false => rfl
        | true =>
          have := hc m p (List.getElem?_eq_some_iff.1 hp).1 hp ha
          rw [hk] at this
          cases this
      rw [List.all_eq_false] at ha
      obtain ⟨x, hx, hb⟩ := ha
      obtain ⟨j, pj, hj, e, hkj⟩ := block_false (by simpa using hb)
      obtain ⟨b, hfb⟩ := sumFrom_parts _ _ _ h x hx
      subst e
      exact ih j pj hj hkj b hfb
  rintro n ⟨k, hkk⟩
  exact key k m p hp hk n hkk
theorem cnt_set {ks : List Bool} {i : Nat} (h : ks[i]? = some false) : cnt (ks.set i true) < cnt ks := by
  unfold cnt
  induction ks generalizing i with
  | nil => simp at h
  | cons b ks ih =>
    cases i with
    | zero =>
      simp only [List.getElem?_cons_zero, Option.some.injEq] at h
      subst h
      simp
    | succ i =>
      have := ih (i := i) (by simpa using h)
      simp only [List.set_cons_succ, List.countP_cons]
      omega
theorem set_same {ks : List Bool} {i : Nat} {b : Bool} (h : ks[i]? = some b) : ks.set i b = ks := by
  apply List.ext_getElem?
  intro j
  rw [List.getElem?_set]
  split
  · rename_i e
    subst e
    split
    · exact h.symm
    · rename_i hl
      rw [List.getElem?_eq_none (by omega)] at h
      cases h
  · rfl
def KS (X : Nat) (W : World) (ks : List Bool) : Prop := W.heap[X]? = some (.cells (ks.map Value.bool).toArray 4 (0, 0))
theorem KS.at {X : Nat} {W : World} {ks : List Bool} (h : KS X W ks) {i : Nat} {b : Bool} (hi : ks[i]? = some b) : W.cell? ⟨X, i, none⟩ = some (.bool b) := by
  rw [cell_of_row W X i _ _ (0, 0) h]
  simp [hi]
theorem KS.set {X : Nat} {W : World} {ks : List Bool} (h : KS X W ks) (i : Nat) (b : Bool) : KS X (W.setCell ⟨X, i, none⟩ (.bool b)) (ks.set i b) := by
  unfold KS
  rw [heap_setCell_same W X i _ _ (.bool b) h]
  simp [List.map_set]
def cntW (X : Nat) (W : World) : Nat := match W.heap[X]? with | some (.cells cs _ _) => cs.toList.countP (fun v => match v with | .bool false => true | _ => false) | _ => 0
theorem KS.count {X : Nat} {W : World} {ks : List Bool} (h : KS X W ks) : cntW X W = cnt ks := by
  unfold cntW Rf.cnt
  rw [h]
  simp only [List.countP_map]
  congr 1
  funext b
  cases b <;> rfl
def boolN : Value → Nat
  | .bool true => 1
  | _ => 0
def EI (X : Nat) (w : World) (D : PD) (ks : List Bool) (more : Bool) (wr : World) : Prop := KS X wr ks ∧ ks.length = D.decomps.length ∧ Sound D ks ∧ Below X w wr ∧ (more = false → Closed D ks D.decomps.length)
def PI (X : Nat) (w : World) (D : PD) (ks0 ks : List Bool) (more : Bool) (i : Nat) (wr : World) : Prop := KS X wr ks ∧ ks.length = D.decomps.length ∧ Sound D ks ∧ Below X w wr ∧ (more = false → Closed D ks i) ∧ cnt ks ≤ cnt ks0 ∧ (more = true → cnt ks < cnt ks0)
theorem PI.start {X : Nat} {w wr : World} {D : PD} {ks : List Bool} {more : Bool} (h : EI X w D ks more wr) : PI X w D ks ks false 0 wr := ⟨h.1, h.2.1, h.2.2.1, h.2.2.2.1, fun _ m p hm => absurd hm (Nat.not_lt_zero m), Nat.le_refl _, fun e => by cases e⟩
theorem PI.done {X : Nat} {w wr : World} {D : PD} {ks0 ks : List Bool} {more : Bool} (h : PI X w D ks0 ks more D.decomps.length wr) : EI X w D ks more wr := ⟨h.1, h.2.1, h.2.2.1, h.2.2.2.1, h.2.2.2.2.1⟩
theorem PI.step {X i : Nat} {w wr : World} {st : St} (hok : StOk st) {ks0 ks : List Bool} {more : Bool} (h : PI X w st.d ks0 ks more i wr) {wz : World} (hz : wz.heap = wr.heap) (hb : Below X w wz) {p : Int × List Int} (hp : st.d.decomps[i]? = some p) {b a : Bool} (hk : ks[i]? = some b) (ha : a = p.2.all (blockB st.d.decomps ks)) :
    PI X w st.d ks0 (ks.set i (b || a)) (more || (a && !b)) (i + 1) (wz.setCell ⟨X, i, none⟩ (.bool (b || a))) := by
  obtain ⟨h1, h2, h3, h4, h5, h6, h7⟩ := h
  have hks : KS X wz ks := by unfold KS; rw [hz]; exact h1
  refine ⟨hks.set i _, by simpa using h2, ?_, hb.setCell (p := ⟨X, i, none⟩) (Nat.le_refl _) _, ?_, ?_, ?_⟩
  · intro m p' hp' hm
    rw [List.getElem?_set] at hm
    split at hm
    · rename_i e
      subst e
      rw [hp] at hp'
      injection hp' with hp'
      subst hp'
      split at hm
      · simp only [Option.some.injEq, Bool.or_eq_true] at hm
        rcases hm with hm | hm
        · exact h3 i p hp (by rw [hk, hm])
        · exact sound_step hok h2 h3 hp (by rw [← ha, hm])
      · cases hm
    · exact h3 m p' hp' hm
  · intro hmore
    have hmore : more = false ∧ (a = false ∨ b = true) := by
      cases more <;> cases a <;> cases b <;> simp_all
    have hse : ks.set i (b || a) = ks := set_same (by
      rw [hk]
      rcases hmore.2 with e | e
      · rw [e]; simp
      · rw [e]; rfl)
    rw [hse]
    intro m p' hm hp' hall
    by_cases hmi : m < i
    · exact h5 hmore.1 m p' hmi hp' hall
    · have : m = i := by omega
      subst this
      rw [hp] at hp'
      injection hp' with hp'
      subst hp'
      rcases hmore.2 with e | e
      · rw [← ha, e] at hall; cases hall
      · rw [hk, e]
  · cases hab : (b || a) with
    | false => rw [set_same (by rw [hk]; simp at hab; rw [hab.1])]; exact h6
    | true =>
      cases b with
      | true => rw [set_same hk]; exact h6
      | false => exact Nat.le_trans (Nat.le_of_lt (cnt_set hk)) h6
  · intro hmore
    simp only [Bool.or_eq_true, Bool.and_eq_true, Bool.not_eq_true'] at hmore
    by_cases hba : a = true ∧ b = false
    · rw [hba.1, hba.2]
      exact Nat.lt_of_lt_of_le (cnt_set (by rw [hk, hba.2])) h6
    · rcases hmore with hm | hm
      · cases hab : (b || a) with
        | false => rw [set_same (by rw [hk]; simp at hab; rw [hab.1])]; exact h7 hm
        | true =>
          cases b with
          | true => rw [set_same hk]; exact h7 hm
          | false => exact Nat.lt_trans (cnt_set hk) (h7 hm)
      · exact absurd hm hba
end Go.Proofs.YtikpkjpnehkbfaaGreatDoor.Rf
namespace Go.Proofs.YtikpkjpnehkbfaaGreatDoor.Rf
open Go Go.RowKit Go.Shelf Go.Proofs.YtikpkjpnehkbfaaGreatDoor.Sp Go.Proofs.YtikpkjpnehkbfaaGreatDoor.Pr Go.Proofs.YtikpkjpnehkbfaaGreatDoor.Rowl
theorem zip_take {L : List (Int × List Int)} {ks : List Bool} {f : (Int × List Int) × Bool → Bool} {m : Nat} {p : Int × List Int} {b : Bool} (hp : L[m]? = some p) (hk : ks[m]? = some b) : ((L.zip ks).take (m + 1)).all f = (((L.zip ks).take m).all f && f (p, b)) := by
  have hz : (L.zip ks)[m]? = some (p, b) := by rw [List.getElem?_zip_eq_some]; exact ⟨hp, hk⟩
  rw [List.take_add_one, hz, List.all_append]
  simp
theorem pts_cell {W : World} {tv : Value} {ps : List Int} (h : PtsB W tv ps) : ∃ b off c, tv = .slice (some ⟨b, off, none⟩) ps.length c ∧ ∀ (i : Nat) (x : Int), ps[i]? = some x → W.cell? ⟨b, off + i, none⟩ = some (.int .i32 x) := by
  obtain ⟨b, off, cap, cs, e, hb, h1, h2, hc⟩ := h
  exact ⟨b, off, cap, e, fun i x hi => by rw [cell_of_row W b (off + i) cs _ (0, 0) hb]; exact hc i x hi⟩
theorem infoBool : (Tryz.prog.info? 4).map (fun i => (i.zero, i.size, i.bytes)) = some (some (.bool false), 1, 1) := by kernel_rfl
def MI (L : List (Int × List Int)) (ks : List Bool) (x : Int) (m : Nat) (a b : Bool) : Prop := b = (a && ((L.zip ks).take m).all fun p => p.1.1 != x || p.2)
def KI (L : List (Int × List Int)) (ks : List Bool) (ps : List Int) (k : Nat) (a : Bool) : Prop := a = (ps.take k).all (blockB L ks)
theorem made_KS {w w1 : World} {n : Nat} (h : w1.ownsRow w.heap.size 4 1 (.slice (some ⟨w.heap.size, 0, none⟩) n n) n (madeCells (Value.bool false).cells (n * 1)).toList) : KS w.heap.size w1 (List.replicate n false) := by
  obtain ⟨_, h2⟩ := h
  rcases h2 with ⟨h2, _⟩ | ⟨g, cap, cur, e, hb, hh, hn, hm, hs, ht⟩
  · cases h2
  · simp only [Value.slice.injEq, Option.some.injEq, Addr.mk.injEq] at e
    obtain ⟨⟨rfl, _⟩, _, rfl⟩ := e
    rw [List.take_of_length_le (by rw [Array.length_toList, hs]; exact Nat.le_refl _), show (Value.bool false).cells = #[Value.bool false] from rfl, Nat.mul_one, toList_madeCells_one] at ht
    unfold KS
    rw [hh, ← Array.toArray_toList (xs := cur), ht]
    simp
theorem sound_none (D : PD) (n : Nat) : Sound D (List.replicate n false) := fun m p _ hm => by
  rw [List.getElem?_replicate] at hm
  split at hm <;> cases hm
def EndOut (w : World) (st : St) (e : Ending) (w' : World) : Prop := ∃ ks c, e = .returned (.slice (some ⟨w.heap.size, 0, none⟩) st.d.decomps.length c) ∧ KS w.heap.size w' ks ∧ ks.length = st.d.decomps.length ∧ Sound st.d ks ∧ Closed st.d ks st.d.decomps.length
set_option maxHeartbeats 8000000 in
set_option maxRecDepth 100000 in
theorem end_calls (q : Nat) (st : St) (w : World) (h : RefAt q w st) : Calls Tryz.prog 91 #[.pointer (some ⟨q, 0, none⟩)] w fun e w' => EndOut w st e w' ∧ Below w.heap.size w w' := by
  have hok := h.2.1
  have hmax := h.2.2.2.2.2
  obtain ⟨A, c, hq, hlen, hc⟩ := h.decomps
  unfold maxLen at hlen
  have HC := Lib.hid hc
  have HOK := Lib.hid hok
  have HR := Lib.hid h
  clear h hc hok
  obtain ⟨L, hL⟩ : ∃ L, st.d.decomps = L := ⟨_, rfl⟩
  have HL := Lib.hid hL
  rw [hL] at hq hlen HC hmax
  clear hL
  go_enter Tryz.func91, Tryz.ntmps91
  obtain ⟨ii, hi0, hz0, hz1, hz2⟩ := info_parts infoBool
  go_wp2_with (at_make; go_must (refine wpList_make_full w rfl _ _ _ rfl w.heap.size 4 ii _ 1 Tryz.underlying144 hi0 hz0 hz1 _ _ _ _ L.length rfl rfl rfl rfl (by rw [hz2]; omega) (by simp only [maxLen]; omega) (Nat.le_refl _) ?_; intro w1 ho1 hg1; have HO1 := Lib.hid ho1; have HG1 := Lib.hid hg1; clear ho1 hg1))
  have HE0 : Hid (EI w.heap.size w st.d (List.replicate L.length false) true w1) := Lib.hid ⟨made_KS HO1.out, by rw [List.length_replicate, HL.out], sound_none _ _, (Below.refl _ w).grown HG1.out (Nat.le_refl _) (fun k e => by cases e), fun e => by cases e⟩
  clear HO1 HG1
  go_loopw [4] (fun vm wr => ∃ (more : Bool) (ks : List Bool), vm = .bool more ∧ Hid (EI w.heap.size w st.d ks more wr)) (fun vm wr => cntW w.heap.size wr + boolN vm)
  case atStart => exact ⟨true, _, rfl, HE0⟩
  case round =>
    obtain ⟨more, ks0, rfl, HE⟩ := hrel
    rename World => w2
    clear HE0
    cases more with
    | false =>
      go_wp2
      go_ret
      refine ⟨⟨ks0, L.length, by rw [HL.out]; rfl, HE.out.1, HE.out.2.1, HE.out.2.2.1, HE.out.2.2.2.2 rfl⟩, HE.out.2.2.2.1⟩
    | true =>
      have HP0 := Lib.hid (PI.start HE.out)
      go_wp2
      go_loopw [4, 5] (fun vm vi wq => ∃ (i : Nat) (more : Bool) (ks : List Bool), vi = .int .i64 i ∧ vm = .bool more ∧ i ≤ L.length ∧ Hid (PI w.heap.size w st.d ks0 ks more i wq)) (fun _ vi _ => L.length - (intOf vi).toNat)
      case atStart => exact ⟨0, false, ks0, rfl, rfl, by omega, HP0⟩
      case round =>
        clear HP0
        obtain ⟨i, more, ks, rfl, rfl, hi, HP⟩ := hrel
        rename World => w3
        have hqr := cell_later HP.out.2.2.2.1 hq
        by_cases hlt : i < L.length
        · obtain ⟨p, hp⟩ : ∃ p, L[i]? = some p := ⟨_, List.getElem?_eq_getElem hlt⟩
          obtain ⟨g, rfl, tv, kk, _, c1, _, hpt⟩ := HC.out i p hp
          have hc1 := cell_later HP.out.2.2.2.1 c1
          obtain ⟨bt, ot, ct, rfl, hpc⟩ := pts_cell hpt
          have HPC := Lib.hid hpc
          have hpl : p.2.length ≤ 8 := (HOK.out.d8 p (by rw [HL.out]; exact List.mem_of_getElem? hp)).1
          have HCH := Lib.hid (HOK.out.chars p (by rw [HL.out]; exact List.mem_of_getElem? hp)).2
          obtain ⟨b, hb⟩ : ∃ b, ks[i]? = some b := ⟨_, List.getElem?_eq_getElem (by rw [HP.out.2.1, HL.out]; exact hlt)⟩
          have hkb := HP.out.1.at hb
          have hkf : w3.frozen? ⟨w.heap.size, i, none⟩ = false := by simp [World.frozen?, show w3.heap[w.heap.size]? = _ from HP.out.1]
          have HPI := Lib.hid hp
          have HBI := Lib.hid hb
          clear hp hb hpc hpt c1
          go_wp2
          go_loopw [6, 7] (fun va vk wz => ∃ (k : Nat) (a : Bool), vk = .int .i64 k ∧ va = .bool a ∧ k ≤ p.2.length ∧ Hid (KI L ks p.2 k a) ∧ Hid (wz.heap = w3.heap ∧ Below w.heap.size w wz)) (fun _ vk _ => p.2.length - (intOf vk).toNat)
          case atStart => exact ⟨0, true, rfl, rfl, by omega, Lib.hid rfl, Lib.hid ⟨rfl, HP.out.2.2.2.1⟩⟩
          case round =>
            obtain ⟨k, a, rfl, rfl, hk, HK, HZ⟩ := hrel
            rename World => w4
            have hq4 := cell_later HZ.out.2 hq
            have hc4 : w4.cell? ⟨g, i * 3 + 1, none⟩ = some (.slice (some ⟨bt, ot, none⟩) p.2.length ct) := (World.cell?_of_block (a := ⟨g, i * 3 + 1, none⟩) (by rw [HZ.out.1])).trans hc1
            by_cases hkl : k < p.2.length
            · obtain ⟨x, hx⟩ : ∃ x, p.2[k]? = some x := ⟨_, List.getElem?_eq_getElem hkl⟩
              have hxc : w4.cell? ⟨bt, ot + k, none⟩ = some (.int .i32 x) := (World.cell?_of_block (a := ⟨bt, ot + k, none⟩) (by rw [HZ.out.1])).trans (cell_later HP.out.2.2.2.1 (HPC.out k x hx))
              obtain ⟨hx0, hx1⟩ := char_bounds (HCH.out x (List.mem_of_getElem? hx))
              have HX := Lib.hid hx
              clear hx
              go_wp2
              go_loopw [6, 8] (fun va vm wy => ∃ (m : Nat) (b' : Bool), vm = .int .i64 m ∧ va = .bool b' ∧ m ≤ L.length ∧ Hid (MI L ks x m a b') ∧ Hid (wy.heap = w3.heap ∧ Below w.heap.size w wy)) (fun _ vm _ => L.length - (intOf vm).toNat)
              case atStart => exact ⟨0, a, rfl, rfl, by omega, Lib.hid (by unfold MI; simp), HZ⟩
              case round =>
                obtain ⟨m, b', rfl, rfl, hm, HMI, HY⟩ := hrel
                rename World => w5
                have hq5 := cell_later HY.out.2 hq
                have hc5 : w5.cell? ⟨g, i * 3 + 1, none⟩ = some (.slice (some ⟨bt, ot, none⟩) p.2.length ct) := (World.cell?_of_block (a := ⟨g, i * 3 + 1, none⟩) (by rw [HY.out.1])).trans hc1
                have hx5 : w5.cell? ⟨bt, ot + k, none⟩ = some (.int .i32 x) := (World.cell?_of_block (a := ⟨bt, ot + k, none⟩) (by rw [HY.out.1, HZ.out.1])).trans hxc
                by_cases hml : m < L.length
                · obtain ⟨pm, hpm⟩ : ∃ pm, L[m]? = some pm := ⟨_, List.getElem?_eq_getElem hml⟩
                  obtain ⟨gg, hgg, tvm, km, d0, _, _, _⟩ := HC.out m pm hpm
                  obtain ⟨rfl⟩ : gg = g := by injection hgg with hgg; injection hgg with hgg; exact hgg.symm
                  have d5 := cell_later HY.out.2 d0
                  obtain ⟨bm, hbm⟩ : ∃ bm, ks[m]? = some bm := ⟨_, List.getElem?_eq_getElem (by rw [HP.out.2.1, HL.out]; exact hml)⟩
                  have hkm5 : w5.cell? ⟨w.heap.size, m, none⟩ = some (.bool bm) := (World.cell?_of_block (a := ⟨w.heap.size, m, none⟩) (by rw [HY.out.1])).trans (HP.out.1.at hbm)
                  have HMN : Hid (MI L ks x (m + 1) a (b' && (pm.1 != x || bm))) := Lib.hid (by
                    have := HMI.out
                    unfold MI at this ⊢
                    rw [zip_take hpm hbm, this, Bool.and_assoc])
                  have f1 : (0 : Int) ≤ (m : Int) := by omega
                  have f2 : (m : Int) < (L.length : Int) := by omega
                  have f3 : (0 : Int) ≤ (i : Int) := by omega
                  have f4 : (i : Int) < (L.length : Int) := by omega
                  have f5 : (0 : Int) ≤ (k : Int) := by omega
                  have f6 : (k : Int) < (p.2.length : Int) := by omega
                  clear hpm hbm d0
                  cases b' with
                  | false =>
                    go_wp2
                    go_region
                    go_wp2
                    refine ⟨⟨m + 1, false, by go_num, rfl, by omega, HMN, Lib.hid ⟨HY.out.1, HY.out.2.drew⟩⟩, ?_⟩
                    simp [intOf]
                    omega
                  | true =>
                    by_cases hmx : pm.1 = x
                    · have e1 : (pm.1 != x) = false := by rw [hmx]; simp
                      rw [e1] at HMN
                      generalize pm.1 = pmx at *
                      clear hmx
                      cases bm
                      all_goals
                        go_wp2
                        go_region
                        go_wp2
                        refine ⟨⟨m + 1, _, by go_num, rfl, by omega, HMN, Lib.hid ⟨HY.out.1, HY.out.2.drew⟩⟩, ?_⟩
                        simp [intOf]
                        omega
                    · have e1 : (pm.1 != x) = true := bne_iff_ne.2 hmx
                      rw [e1] at HMN
                      generalize pm.1 = pmx at *
                      clear hmx
                      go_wp2
                      go_region
                      go_wp2
                      refine ⟨⟨m + 1, _, by go_num, rfl, by omega, HMN, Lib.hid ⟨HY.out.1, HY.out.2.drew⟩⟩, ?_⟩
                      simp [intOf]
                      omega
                · have hme : m = L.length := by omega
                  subst hme
                  have HKN : Hid (KI L ks p.2 (k + 1) b') := Lib.hid (by
                    have := HMI.out
                    have hk0 := HK.out
                    unfold MI at this
                    unfold KI at hk0 ⊢
                    rw [List.take_add_one, HX.out, List.all_append, ← hk0, this, List.take_of_length_le (by simp; omega)]
                    simp [blockB])
                  go_wp2
                  refine ⟨⟨k + 1, b', by go_num, rfl, by omega, HKN, HY⟩, ?_⟩
                  simp [intOf]
                  omega
            · have hke : k = p.2.length := by omega
              subst hke
              have hkb4 : w4.cell? ⟨w.heap.size, i, none⟩ = some (.bool b) := (World.cell?_of_block (a := ⟨w.heap.size, i, none⟩) (by rw [HZ.out.1])).trans hkb
              have hkf4 : w4.frozen? ⟨w.heap.size, i, none⟩ = false := (World.frozen?_of_block (a := ⟨w.heap.size, i, none⟩) (by rw [HZ.out.1])).trans hkf
              have ha : a = p.2.all (blockB st.d.decomps ks) := by
                have := HK.out
                unfold KI at this
                rw [List.take_of_length_le (Nat.le_refl _)] at this
                rw [HL.out]; exact this
              have HN := Lib.hid (PI.step HOK.out HP.out HZ.out.1 HZ.out.2 (by rw [HL.out]; exact HPI.out) HBI.out ha)
              clear ha
              cases more <;> cases a <;> cases b
              all_goals
                go_wp2
                refine ⟨⟨i + 1, _, _, by go_num, rfl, by omega, HN⟩, ?_⟩
                simp [intOf]
                omega
        · have hie : i = L.length := by omega
          subst hie
          have HD : Hid (EI w.heap.size w st.d ks more w3) := Lib.hid (by have := HP.out; rw [← HL.out] at this; exact this.done)
          have HM : Hid (cntW w.heap.size w3 + boolN (.bool more) < cntW w.heap.size w2 + boolN (.bool true)) := Lib.hid (by
            rw [KS.count HP.out.1, KS.count HE.out.1]
            have a1 := HP.out.2.2.2.2.2.1
            have a2 := HP.out.2.2.2.2.2.2
            cases more with
            | false => simp only [boolN]; omega
            | true => have := a2 rfl; simp only [boolN]; omega)
          go_wp2
          exact ⟨⟨more, ks, rfl, HD⟩, HM.out⟩
end Go.Proofs.YtikpkjpnehkbfaaGreatDoor.Rf
namespace Go.Proofs.YtikpkjpnehkbfaaGreatDoor.Rf
open Go Go.RowKit Go.Shelf Go.Proofs.YtikpkjpnehkbfaaGreatDoor.Sp Go.Proofs.YtikpkjpnehkbfaaGreatDoor.Pr Go.Proofs.YtikpkjpnehkbfaaGreatDoor.Rowl
theorem decomp_facts {st : St} (hok : StOk st) (r : Int) : (decompOf st.d r).length ≤ 8 ∧ ∀ x ∈ decompOf st.d r, 0 ≤ x ∧ x ≤ 1114111 := by
  unfold decompOf
  by_cases hs : isSyl r = true
  · rw [if_pos hs]
    have hb : 44032 ≤ r ∧ r < 55204 := by simpa [isSyl] using hs
    unfold sylOf
    constructor
    · simp only [List.length_append, List.length_cons, List.length_nil]
      split <;> simp
    · intro x hx
      simp only [List.mem_append, List.mem_cons, List.not_mem_nil, or_false] at hx
      rcases hx with (rfl | rfl) | hx
      · omega
      · omega
      · split at hx
        · simp at hx
        · simp only [List.mem_cons, List.not_mem_nil, or_false] at hx
          subst hx
          omega
  · rw [if_neg hs]
    cases hl : lookD st.d.decomps r with
    | none => exact ⟨Nat.zero_le _, by simp⟩
    | some ps =>
      have hm := lookD_in hl
      exact ⟨(hok.d8 _ hm).1, fun x hx => char_bounds ((hok.chars _ hm).2 x hx)⟩
def FI (f : Int → Option Nat) (l : List Int) (m i n : Nat) : Prop := sumFrom f (some (min n 9)) (l.drop i) = some m ∧ n ≤ 17
theorem FI.step {f : Int → Option Nat} {l : List Int} {m i n : Nat} (h : FI f l m i n) (h8 : n ≤ 8) {x : Int} (hx : l[i]? = some x) (h9 : ∀ b, f x = some b → b ≤ 9) : ∃ b, f x = some b ∧ b ≤ 9 ∧ FI f l m (i + 1) (n + b) := by
  obtain ⟨h1, h2⟩ := h
  obtain ⟨hi, e⟩ := List.getElem?_eq_some_iff.1 hx
  rw [List.drop_eq_getElem_cons hi, e, sumFrom_cons] at h1
  cases hf : f x with
  | none => rw [hf] at h1; cases h1
  | some b =>
    rw [hf] at h1
    have hb := h9 b hf
    refine ⟨b, rfl, hb, ?_, by omega⟩
    rwa [show min (n + b) 9 = min (min n 9 + b) 9 by omega]
theorem FI.done {f : Int → Option Nat} {l : List Int} {m i n : Nat} (h : FI f l m i n) (he : l.length ≤ i ∨ 8 < n) : m = min n 9 := by
  obtain ⟨h1, h2⟩ := h
  rcases he with he | he
  · rw [List.drop_eq_nil_of_le he] at h1
    unfold sumFrom at h1
    simp only [List.foldl_nil, Option.some.injEq] at h1
    exact h1.symm
  · have a := sumFrom_ge _ _ _ (by omega) h1
    have b := sumFrom_le _ _ _ (by omega) h1
    omega
abbrev FullC (q : Nat) (st : St) (k : Nat) : Prop := ∀ (r : Int) (m : Nat) (w : World), fullGo st.d k r = some m → 0 ≤ r → r ≤ 1114111 → RefAt q w st → Calls Tryz.prog 92 #[.pointer (some ⟨q, 0, none⟩), .int .i32 r] w fun e w' => e = .returned (.int .i64 m) ∧ Below w.heap.size w w'
set_option maxHeartbeats 4000000 in
set_option maxRecDepth 100000 in
theorem full_step (q : Nat) (st : St) (k : Nat) (ih : FullC q st k) : FullC q st (k + 1) := by
  intro r m w hm hr0 hr1 h
  have HF := decomp_facts h.2.1 r
  have HD := Lib.hid (rdecomp_calls q st r (by omega) (by omega) w h)
  have HIH := Lib.hid ih
  have HR := Lib.hid h
  rw [fullGo] at hm
  clear h ih
  obtain ⟨hl8, hlb⟩ := HF
  have HLB := Lib.hid hlb
  clear hlb
  generalize decompOf st.d r = l at *
  by_cases h0 : l = []
  · subst h0
    rw [if_pos rfl] at hm
    injection hm with hm
    subst hm
    clear hl8
    go_enter Tryz.func92, Tryz.ntmps92
    go_wp2_with (go_at_call 131; go_must (refine HD.out.mono ?_; rintro e w5 ⟨v', rfl, ho, hb5⟩; obtain ⟨Av, Cv, rfl⟩ := own_slice ho))
    go_ret
    exact ⟨rfl, hb5⟩
  · rw [if_neg h0, sumOf_from] at hm
    have hl1 : 0 < l.length := List.length_pos_iff.2 h0
    have hb0 : ((l.length : Int) == 0) = false := beq_eq_false_iff_ne.2 (by omega)
    have HFI : Hid (FI (fullGo st.d k) l m 0 0) := Lib.hid ⟨hm, by omega⟩
    clear hm h0
    go_enter Tryz.func92, Tryz.ntmps92
    go_wp2_with (go_at_call 131; go_must (refine HD.out.mono ?_; rintro e w5 ⟨v', rfl, ho, hb5⟩; obtain ⟨Gv, Cv, rfl, hgv1, hgv2, _⟩ := own_some ho hl1; have HV := Lib.hid (ReadPts.own ho); have HB5 := Lib.hid hb5; clear ho hb5))
    go_loopw [6, 7] (fun vn vi wr => ∃ n i : Nat, vn = .int .i64 n ∧ vi = .int .i64 i ∧ i ≤ l.length ∧ n ≤ 17 ∧ Hid (FI (fullGo st.d k) l m i n) ∧ Hid (Below w5.heap.size w5 wr)) (fun _ vi _ => l.length - (intOf vi).toNat)
    case atStart => exact ⟨0, 0, rfl, rfl, by omega, by omega, HFI, Lib.hid (Below.refl _ _)⟩
    case round =>
      obtain ⟨n, i, rfl, rfl, hi, hn, HI, HW⟩ := hrel
      rename World => w2
      by_cases hgo : i < l.length ∧ n ≤ 8
      · obtain ⟨hlt, h8⟩ := hgo
        obtain ⟨x, hx⟩ : ∃ x, l[i]? = some x := ⟨_, List.getElem?_eq_getElem hlt⟩
        obtain ⟨b, hfb, hb9, hN⟩ := HI.out.step h8 hx (fun b hb => (fullGo_pos _ _ _ _ hb).2)
        have hxb := HLB.out x (List.mem_of_getElem? hx)
        have hc : w2.cell? ⟨Gv, i, none⟩ = some (.int .i32 x) := by
          have := cell_later HW.out (HV.out.cell i x hx)
          simpa using this
        have HC := Lib.hid (HIH.out x b w2 hfb hxb.1 hxb.2 ((HR.out.on HB5.out).on HW.out))
        have HN := Lib.hid hN
        have f1 : (0 : Int) ≤ (i : Int) := by omega
        have f2 : (i : Int) < (l.length : Int) := by omega
        have f3 : (n : Int) ≤ 8 := by omega
        clear hx hfb hN
        go_wp2_with (go_at_call 92; go_must (refine HC.out.mono ?_; rintro e w6 ⟨rfl, hb6⟩; have HW2 := Lib.hid (below_then HW.out hb6); clear hb6))
        go_roundw
        case rel => exact ⟨n + b, i + 1, by go_num, by go_num, by omega, by omega, HN, HW2⟩
        case measure => simp [intOf]; omega
      · have HM : Hid (m = min n 9) := Lib.hid (HI.out.done (by omega))
        clear HI
        by_cases hlt : i < l.length
        · have f3 : ¬ (n : Int) ≤ 8 := by omega
          have hm9 : Hid ((m : Int) = min (n : Int) 9) := Lib.hid (by have := HM.out; omega)
          have f4 : ¬ (n : Int) < 9 := by omega
          go_wp2
          go_ret
          rw [hm9.out]
          exact ⟨rfl, below_then HB5.out HW.out⟩
        · have hie : i = l.length := by omega
          subst hie
          by_cases h9 : n ≤ 8
          · have hm9 : Hid ((m : Int) = min (n : Int) 9) := Lib.hid (by have := HM.out; omega)
            have f4 : (n : Int) < 9 := by omega
            go_wp2
            go_ret
            rw [hm9.out]
            exact ⟨rfl, below_then HB5.out HW.out⟩
          · have hm9 : Hid ((m : Int) = min (n : Int) 9) := Lib.hid (by have := HM.out; omega)
            have f4 : ¬ (n : Int) < 9 := by omega
            go_wp2
            go_ret
            rw [hm9.out]
            exact ⟨rfl, below_then HB5.out HW.out⟩
theorem full_calls (q : Nat) (st : St) (r : Int) (m : Nat) (w : World) (h : Full st.d r m) (hr0 : 0 ≤ r) (hr1 : r ≤ 1114111) (hR : RefAt q w st) : Calls Tryz.prog 92 #[.pointer (some ⟨q, 0, none⟩), .int .i32 r] w fun e w' => e = .returned (.int .i64 m) ∧ Below w.heap.size w w' := by
  obtain ⟨k, hk⟩ := h
  have key : ∀ k, FullC q st k := by
    intro k
    induction k with
    | zero => intro r m w hm; cases hm
    | succ k ih => exact full_step q st k ih
  exact key k r m w hk hr0 hr1 hR
end Go.Proofs.YtikpkjpnehkbfaaGreatDoor.Rf
namespace Go.Proofs.YtikpkjpnehkbfaaGreatDoor.Rf
open Go Go.RowKit Go.Shelf Go.Proofs.YtikpkjpnehkbfaaGreatDoor.Sp Go.Proofs.YtikpkjpnehkbfaaGreatDoor.Pr Go.Proofs.YtikpkjpnehkbfaaGreatDoor.Rowl
def wordsH (l : Bytes) : List Bytes := wordsGo (beforeHash l) []
def doW (s : St) : List Bytes → Int → Except (Int × Int) St
  | [], _ => .ok s
  | l :: ls, k => match doLine s (wordsH l) k with
    | .error e => .error (e, k)
    | .ok s' => doW s' ls (k + 1)
def pcs : Bytes → Bytes → List Bytes
  | cur, [] => [cur]
  | cur, c :: l => if c = 10 then cur :: pcs [] l else pcs (cur ++ [c]) l
theorem pcs_pieces : ∀ (l cur : Bytes), ∃ p ps, pieces 10 l = p :: ps ∧ pcs cur l = (cur ++ p) :: ps
  | [], cur => ⟨[], [], rfl, by simp [pcs]⟩
  | c :: l, cur => by
    by_cases hc : c = 10
    · obtain ⟨p, ps, h1, h2⟩ := pcs_pieces l []
      refine ⟨[], p :: ps, by simp [pieces, hc, h1], ?_⟩
      simp [pcs, hc, h2]
    · obtain ⟨p, ps, h1, h2⟩ := pcs_pieces l (cur ++ [c])
      refine ⟨c :: p, ps, by simp [pieces, hc, h1], ?_⟩
      simp [pcs, hc, h2]
theorem pcs_nil (l : Bytes) : pcs [] l = pieces 10 l := by
  obtain ⟨p, ps, h1, h2⟩ := pcs_pieces l []
  rw [h1, h2]
  rfl
theorem doW_lg : ∀ (l cur : Bytes) (st : St) (k : Int), doW st (lg cur l) k = doLines st (pcs cur l) k
  | [], cur, st, k => by
    by_cases h0 : cur = []
    · subst h0
      rfl
    · rw [lg, if_neg h0, pcs, doW, doLines]
      rfl
  | c :: l, cur, st, k => by
    by_cases hc : c = 10
    · rw [lg, if_pos hc, pcs, if_pos hc, doW, doLines]
      show (match doLine st (wordsOf cur) k with | .error e => _ | .ok s' => doW s' (lg [] l) (k + 1)) = _
      cases hd : doLine st (wordsOf cur) k with
      | error e => rfl
      | ok s' => exact doW_lg l [] s' (k + 1)
    · rw [lg, if_neg hc, pcs, if_neg hc]
      exact doW_lg l _ st k
theorem lg_count : ∀ (l cur : Bytes), cur.getLast? ≠ some 10 → (lg cur l).length = (l.filter (· == 10)).length + (if (cur ++ l) ≠ [] ∧ (cur ++ l).getLast? ≠ some 10 then 1 else 0)
  | [], cur, h => by
    by_cases h0 : cur = []
    · subst h0; simp [lg]
    · rw [lg, if_neg h0, List.append_nil, if_pos ⟨h0, h⟩]
      rfl
  | c :: l, cur, h => by
    by_cases hc : c = 10
    · subst hc
      rw [lg, if_pos rfl, List.length_cons, lg_count l [] (by simp), List.filter_cons_of_pos (by rfl), List.length_cons, List.nil_append]
      have e : (if (cur ++ 10 :: l) ≠ [] ∧ (cur ++ 10 :: l).getLast? ≠ some 10 then 1 else 0) = (if l ≠ [] ∧ l.getLast? ≠ some 10 then 1 else 0) := by
        cases l with
        | nil => simp
        | cons d l => simp [List.getLast?_append, List.getLast?_cons_cons]
      rw [e]
      omega
    · rw [lg, if_neg hc, lg_count l (cur ++ [c]) (by simp [hc]), List.filter_cons_of_neg (by simpa using hc), List.append_assoc, List.singleton_append]
theorem lg_lines (s : Bytes) : (lg [] s).length = lineCount s := by
  rw [lg_count s [] (by simp)]
  rfl
theorem parse_lg (s : Bytes) (h1 : s.length ≤ 1048576) (h2 : (lg [] s).length ≤ 65536) : parse s = match doW {} (lg [] s) 1 with
    | .error (e, k) => .error (e, some k)
    | .ok st => match badLeast st with
      | some (_, e, k) => .error (e, some k)
      | none => .ok st.d := by
  unfold parse
  rw [if_neg (by rw [← lg_lines]; omega), doW_lg, pcs_nil]
  cases doLines {} (pieces 10 s) 1 with
  | error e => rfl
  | ok st => rfl
theorem parse_much (s : Bytes) (h : 1048576 < s.length ∨ 65536 < (lg [] s).length) : parse s = .error (5, none) := by
  unfold parse
  rw [if_pos (by rw [← lg_lines]; exact h)]
def Small (st : St) (k : Nat) : Prop := st.d.classes.length ≤ k ∧ st.d.kinds.length ≤ k ∧ st.d.folds.length ≤ k ∧ st.d.decomps.length ≤ k
theorem doLine_small {st st' : St} {w : List Bytes} {line : Int} {k : Nat} (h : Small st k) (hd : doLine st w line = .ok st') : Small st' (k + 1) := by
  obtain ⟨h1, h2, h3, h4⟩ := h
  have hs : Small st (k + 1) := ⟨by omega, by omega, by omega, by omega⟩
  unfold doLine at hd
  split at hd
  · injection hd with hd
    subst hd
    exact hs
  · split at hd
    · unfold doClass at hd
      split at hd
      · cases hd
      · split at hd
        · cases hd
        · injection hd with hd
          subst hd
          exact ⟨by simp; omega, hs.2.1, hs.2.2.1, hs.2.2.2⟩
    · split at hd
      · unfold doKind at hd
        split at hd
        · cases hd
        · split at hd
          · cases hd
          · injection hd with hd
            subst hd
            exact ⟨hs.1, by simp; omega, hs.2.2.1, hs.2.2.2⟩
      · split at hd
        · unfold doFold at hd
          split at hd
          · cases hd
          · cases hd
          · split at hd
            · cases hd
            · injection hd with hd
              subst hd
              exact ⟨hs.1, hs.2.1, by simp; omega, hs.2.2.2⟩
        · split at hd
          · unfold doDecomp at hd
            split at hd
            · cases hd
            · cases hd
            · split at hd
              · cases hd
              · split at hd
                · cases hd
                · injection hd with hd
                  subst hd
                  exact ⟨hs.1, hs.2.1, hs.2.2.1, by simp; omega⟩
          · cases hd
theorem Small.all {st : St} {k : Nat} (h : Small st k) (hk : k ≤ 1048576) : st.d.classes.length ≤ 1048576 ∧ st.d.kinds.length ≤ 1048576 ∧ st.d.folds.length ≤ 1048576 ∧ st.d.decomps.length ≤ 1048576 := by
  obtain ⟨h1, h2, h3, h4⟩ := h
  exact ⟨by omega, by omega, by omega, by omega⟩
theorem doW_cons {st : St} {ls : List Bytes} {i : Nat} {x : Bytes} {k : Int} (h : ls[i]? = some x) : doW st (ls.drop i) k = match doLine st (wordsH x) k with | .error e => .error (e, k) | .ok s' => doW s' (ls.drop (i + 1)) (k + 1) := by
  obtain ⟨hi, e⟩ := List.getElem?_eq_some_iff.1 h
  rw [List.drop_eq_getElem_cons hi, e, doW]
noncomputable def accB (st : St) (i : Nat) : Option (Int × Int × Int) := (st.lines.take i).foldl (badF st.d) none
theorem accB_all (st : St) : accB st st.lines.length = badLeast st := by
  unfold accB
  rw [List.take_of_length_le (Nat.le_refl _)]
  rfl
theorem accB_step {st : St} {i : Nat} {p : Int × Int} (h : st.lines[i]? = some p) : accB st (i + 1) = badF st.d (accB st i) p := by
  unfold accB
  rw [List.take_add_one, h, List.foldl_append]
  rfl
theorem accB_new {st : St} (hok : StOk st) {i : Nat} {p : Int × Int} (h : st.lines[i]? = some p) {x : Int × Int × Int} (ha : accB st i = some x) : x.1 ≠ p.1 ∧ 0 ≤ x.1 := by
  unfold accB at ha
  obtain ⟨k1, _, _⟩ := (bad_fold st.d _ none).2 x ha
  rcases k1 with k1 | ⟨k1, _⟩
  · cases k1
  · obtain ⟨j, hj⟩ := List.mem_iff_getElem?.1 k1
    rw [List.getElem?_take] at hj
    split at hj
    · rename_i hji
      have nd : (st.lines.map (·.1)).Nodup := by rw [hok.keys]; exact hok.nodup
      have e1 : (st.lines.map (·.1))[j]? = some x.1 := by rw [List.getElem?_map, hj]; rfl
      have e2 : (st.lines.map (·.1))[i]? = some p.1 := by rw [List.getElem?_map, h]; rfl
      refine ⟨fun e => ?_, ?_⟩
      · obtain ⟨a1, a2⟩ := List.getElem?_eq_some_iff.1 e1
        obtain ⟨b1, b2⟩ := List.getElem?_eq_some_iff.1 e2
        have := (List.getElem_inj nd).1 (show (st.lines.map (·.1))[j] = (st.lines.map (·.1))[i] by rw [a2, b2, e])
        omega
      · have hm : x.1 ∈ st.d.decomps.map (·.1) := by
          rw [← hok.keys]
          exact List.mem_of_getElem? e1
        obtain ⟨q, hq, e⟩ := List.mem_map.1 hm
        rw [← e]
        exact (char_bounds (hok.chars q hq).1).1
    · cases hj
end Go.Proofs.YtikpkjpnehkbfaaGreatDoor.Rf
namespace Go.Proofs.YtikpkjpnehkbfaaGreatDoor.Rf
open Go Go.RowKit Go.Shelf Go.Proofs.YtikpkjpnehkbfaaGreatDoor.Sp Go.Proofs.YtikpkjpnehkbfaaGreatDoor.Pr Go.Proofs.YtikpkjpnehkbfaaGreatDoor.Rowl
def RefSt (q n₀ : Nat) (W : World) (st : St) : Prop := ∃ v xs n, Ref4 q n₀ W v xs n ∧ Means W xs n st
theorem RefSt.on {q n₀ : Nat} {W W' : World} {st : St} (h : RefSt q n₀ W st) (hb : Below W.heap.size W W') : RefSt q n₀ W' st := by
  obtain ⟨v, xs, n, h1, h2⟩ := h
  exact ⟨v, xs, n, h1.later hb, h2.later hb⟩
def LineOut (q n₀ : Nat) (o : Except Int St) (w : World) (e : Ending) (w' : World) : Prop := match o with
  | .ok st' => e = .returned (.int .i64 0) ∧ RefSt q n₀ w' st' ∧ Fr q n₀ w w'
  | .error k => e = .returned (.int .i64 k) ∧ 0 < k ∧ Below w.heap.size w w'
theorem flatR_snoc (l : List Row) (x : Row) : flatR (l ++ [x]) = flatR l ++ rowC x := by simp [flatR]
section
variable {q n₀ : Nat} {W W' : World} {v : Nat → Value} {xs : Nat → List Value} {n : Nat → Nat} {st : St}
theorem Put.class' (h : Ref4 q n₀ W v xs n) (hm : Means W xs n st) {x : Row} (hp : Put q n₀ 0 v xs n (rowC x) W W') : RefSt q n₀ W' { st with d := { st.d with classes := st.d.classes ++ [x] } } ∧ Fr q n₀ W W' := by
  obtain ⟨v', h1, h2⟩ := hp
  have m2 := hm.map (fun tv ps ht => h2.pts ⟨_, h.hp⟩ ht)
  refine ⟨⟨_, _, _, h1, ⟨?_, ?_⟩, ?_, ?_, ?_⟩, h2⟩
  · rw [upd_same, m2.c.1, flatR_snoc]
  · rw [upd_same, m2.c.2]; simp
  · rw [upd_other _ _ (by decide), upd_other _ _ (by decide)]; exact m2.k
  · rw [upd_other _ _ (by decide), upd_other _ _ (by decide)]; exact m2.f
  · rw [upd_other _ _ (by decide), upd_other _ _ (by decide)]; exact m2.d
theorem Put.kind' (h : Ref4 q n₀ W v xs n) (hm : Means W xs n st) {x : Row} (hp : Put q n₀ 1 v xs n (rowC x) W W') : RefSt q n₀ W' { st with d := { st.d with kinds := st.d.kinds ++ [x] } } ∧ Fr q n₀ W W' := by
  obtain ⟨v', h1, h2⟩ := hp
  have m2 := hm.map (fun tv ps ht => h2.pts ⟨_, h.hp⟩ ht)
  refine ⟨⟨_, _, _, h1, ?_, ⟨?_, ?_⟩, ?_, ?_⟩, h2⟩
  · rw [upd_other _ _ (by decide), upd_other _ _ (by decide)]; exact m2.c
  · rw [upd_same, m2.k.1, flatR_snoc]
  · rw [upd_same, m2.k.2]; simp
  · rw [upd_other _ _ (by decide), upd_other _ _ (by decide)]; exact m2.f
  · rw [upd_other _ _ (by decide), upd_other _ _ (by decide)]; exact m2.d
theorem Put.fold' (h : Ref4 q n₀ W v xs n) (hm : Means W xs n st) {r k : Int} {ps : List Int} {tv : Value} (ht : PtsB W' tv ps) (hp : Put q n₀ 2 v xs n [.int .i64 r, tv, .int .i64 k] W W') : RefSt q n₀ W' { st with d := { st.d with folds := st.d.folds ++ [(r, ps)] } } ∧ Fr q n₀ W W' := by
  obtain ⟨v', h1, h2⟩ := hp
  have m2 := hm.map (fun tv ps ht => h2.pts ⟨_, h.hp⟩ ht)
  refine ⟨⟨_, _, _, h1, ?_, ?_, ⟨?_, ?_⟩, ?_⟩, h2⟩
  · rw [upd_other _ _ (by decide), upd_other _ _ (by decide)]; exact m2.c
  · rw [upd_other _ _ (by decide), upd_other _ _ (by decide)]; exact m2.k
  · rw [upd_same]
    obtain ⟨ks, hk⟩ := m2.f.1
    exact ⟨ks ++ [k], hk.snoc ht⟩
  · rw [upd_same, m2.f.2]; simp
  · rw [upd_other _ _ (by decide), upd_other _ _ (by decide)]; exact m2.d
theorem Put.decomp' (h : Ref4 q n₀ W v xs n) (hm : Means W xs n st) {r k : Int} {ps : List Int} {tv : Value} (ht : PtsB W' tv ps) (hp : Put q n₀ 3 v xs n [.int .i64 r, tv, .int .i64 k] W W') : RefSt q n₀ W' { d := { st.d with decomps := st.d.decomps ++ [(r, ps)] }, lines := st.lines ++ [(r, k)] } ∧ Fr q n₀ W W' := by
  obtain ⟨v', h1, h2⟩ := hp
  have m2 := hm.map (fun tv ps ht => h2.pts ⟨_, h.hp⟩ ht)
  refine ⟨⟨_, _, _, h1, ?_, ?_, ?_, ⟨?_, ?_⟩⟩, h2⟩
  · rw [upd_other _ _ (by decide), upd_other _ _ (by decide)]; exact m2.c
  · rw [upd_other _ _ (by decide), upd_other _ _ (by decide)]; exact m2.k
  · rw [upd_other _ _ (by decide), upd_other _ _ (by decide)]; exact m2.f
  · rw [upd_same]
    simp only [List.map_append, List.map_cons, List.map_nil]
    exact m2.d.1.snoc ht
  · rw [upd_same, m2.d.2]; simp
end
theorem class_err {l : Bytes} {k : Int} (h : classNo l = .error k) : 0 < k := by
  unfold classNo at h
  split at h
  · split at h
    · injection h with h; omega
    · cases h
  · injection h with h; omega
theorem three_lists {α : Type} {l : List α} (h : l.length = 3) : ∃ a b c, l = [a, b, c] := by
  match l, h with
  | [a, b, c], _ => exact ⟨a, b, c, rfl⟩
theorem wl_at' {ws : List ByteArray} {i : Nat} {s : ByteArray} (h : ws[i]? = some s) : (wl ws)[i]? = some s.data.toList := by unfold wl; rw [List.getElem?_map, h]; rfl
theorem doLine_name {st : St} {w : List Bytes} {x : Bytes} {line : Int} (h : w[0]? = some x) : doLine st w line = if x = nameClass then doClass st w else if x = nameKind then doKind st w else if x = nameFold then doFold st w else if x = nameDecomp then doDecomp st w line else .error 12 := by
  cases w with
  | nil => simp at h
  | cons a w =>
    simp only [List.getElem?_cons_zero, Option.some.injEq] at h
    subst h
    rfl
theorem ranged_all (q n₀ : Nat) (st : St) (w : World) (h : RefSt q n₀ w st) (hn₀ : n₀ ≤ w.heap.size) (hsm : st.d.classes.length ≤ 1048576 ∧ st.d.kinds.length ≤ 1048576) (KT : KindsAt w) (ws : List ByteArray) (hws : ∀ x ∈ ws, x.size ≤ 1048576) (b off c : Nat)
    (hc : ∀ i s, ws[i]? = some s → w.cell? ⟨b, off + i, none⟩ = some (.string s)) (s0 : ByteArray) (hs0 : ws[0]? = some s0) (isK : Bool) (hk : s0.data.toList = if isK then nameKind else nameClass) (line : Int) :
    Calls Tryz.prog 89 #[.pointer (some ⟨q, 0, none⟩), .slice (some ⟨b, off, none⟩) ws.length c] w fun e w' => LineOut q n₀ (doLine st (wl ws) line) w e w' := by
  have hd : doLine st (wl ws) line = if isK then doKind st (wl ws) else doClass st (wl ws) := by
    rw [doLine_name (wl_at' hs0), hk]
    cases isK <;> rfl
  rw [hd]
  by_cases h3 : ws.length < 3
  · have ht : threeOf (wl ws) = .error 2 := by unfold threeOf; rw [if_pos (by rw [wl_length]; exact h3)]
    refine (ranged_few q _ _ c w h3).mono ?_
    rintro e w' ⟨rfl, hb⟩
    cases isK
    · show LineOut _ _ (doClass st (wl ws)) _ _ _
      unfold doClass
      rw [ht]
      exact ⟨rfl, by decide, hb⟩
    · show LineOut _ _ (doKind st (wl ws)) _ _ _
      unfold doKind
      rw [ht]
      exact ⟨rfl, by decide, hb⟩
  by_cases h4 : 3 < ws.length
  · have ht : threeOf (wl ws) = .error 3 := by unfold threeOf; rw [if_neg (by rw [wl_length]; exact h3), if_pos (by rw [wl_length]; exact h4)]
    refine (ranged_lots q _ _ c w h4).mono ?_
    rintro e w' ⟨rfl, hb⟩
    cases isK
    · show LineOut _ _ (doClass st (wl ws)) _ _ _
      unfold doClass
      rw [ht]
      exact ⟨rfl, by decide, hb⟩
    · show LineOut _ _ (doKind st (wl ws)) _ _ _
      unfold doKind
      rw [ht]
      exact ⟨rfl, by decide, hb⟩
  obtain ⟨a0, s1, s2, rfl⟩ := three_lists (show ws.length = 3 by omega)
  simp only [List.getElem?_cons_zero, Option.some.injEq] at hs0
  subst hs0
  have c0 : w.cell? ⟨b, off, none⟩ = some (.string a0) := hc 0 a0 rfl
  have c1 : w.cell? ⟨b, off + 1, none⟩ = some (.string s1) := hc 1 s1 rfl
  have c2 : w.cell? ⟨b, off + 2, none⟩ = some (.string s2) := hc 2 s2 rfl
  have z1 := hws s1 (by simp)
  have z2 := hws s2 (by simp)
  have ht : threeOf (wl [a0, s1, s2]) = spanOf s1.data.toList := rfl
  have hg : (wl [a0, s1, s2]).getD 2 [] = s2.data.toList := rfl
  obtain ⟨v, xs, n, h1, h2⟩ := h
  cases hsp : spanOf s1.data.toList with
  | error k =>
    refine (ranged_span q w b off c s1 z1 c1 k hsp).mono ?_
    rintro e w' ⟨rfl, hb⟩
    cases isK
    · show LineOut _ _ (doClass st _) _ _ _
      unfold doClass
      rw [ht, hsp]
      exact ⟨rfl, span_err hsp, hb⟩
    · show LineOut _ _ (doKind st _) _ _ _
      unfold doKind
      rw [ht, hsp]
      exact ⟨rfl, span_err hsp, hb⟩
  | ok p =>
    obtain ⟨lo, hi⟩ := p
    cases isK
    · have hkb : (a0.toList == [107, 105, 110, 100]) = false := by rw [Lib.toList_data, hk]; rfl
      have hdo : doClass st (wl [a0, s1, s2]) = match classNo s2.data.toList with | .error e => .error e | .ok n => .ok { st with d := { st.d with classes := st.d.classes ++ [⟨lo, hi, n⟩] } } := by
        unfold doClass
        rw [ht, hsp, hg]
        cases classNo s2.data.toList <;> rfl
      show Calls _ _ _ _ fun e w' => LineOut q n₀ (doClass st (wl [a0, s1, s2])) w e w'
      rw [hdo]
      cases hcn : classNo s2.data.toList with
      | error k =>
        refine (ranged_number q w b off c a0 s1 s2 z1 z2 c0 c1 c2 hkb lo hi hsp k hcn).mono ?_
        rintro e w' ⟨rfl, hb⟩
        exact ⟨rfl, class_err hcn, hb⟩
      | ok m =>
        rcases class_cases s2.data.toList with ⟨m', y1, y2, y3, y4, y5, y6⟩ | ⟨_, _, y⟩ | ⟨_, _, _, y⟩ | ⟨_, _, _, _, y⟩ | ⟨_, _, _, _, y⟩
        · rw [hcn] at y6
          rw [← Lib.size_eq] at y1 y2 y6
          by_cases h48 : 1 < s2.size ∧ s2.data.toList.head? = some 48
          · rw [if_pos h48] at y6; cases y6
          · rw [if_neg h48] at y6
            by_cases h254 : 254 < m'
            · rw [if_pos h254] at y6; cases y6
            · rw [if_neg h254] at y6
              injection y6 with y6
              subst y6
              have h48' : s2.size ≤ 1 ∨ (1 < s2.size ∧ ∃ h : 0 < s2.size, s2[0] ≠ 48) := by
                by_cases hs1 : s2.size ≤ 1
                · exact .inl hs1
                · have hp : 0 < s2.size := by omega
                  refine .inr ⟨by omega, hp, fun e => h48 ⟨by omega, ?_⟩⟩
                  rw [head_at s2 hp, e]
              refine (ranged_class q n₀ v xs n w h1 hn₀ (by rw [h2.c.2]; exact hsm.1) b off c a0 s1 s2 z1 y1 c0 c1 c2 hkb lo hi hsp m' y5 (by omega) h48').mono ?_
              rintro e w' ⟨rfl, hp⟩
              exact ⟨rfl, Put.class' h1 h2 hp⟩
        all_goals (rw [hcn] at y; cases y)
    · have hkb : (a0.toList == [107, 105, 110, 100]) = true := by rw [Lib.toList_data, hk]; rfl
      have hdo : doKind st (wl [a0, s1, s2]) = match kindNames.idxOf? s2.data.toList with | none => .error 12 | some n => .ok { st with d := { st.d with kinds := st.d.kinds ++ [⟨lo, hi, n⟩] } } := by
        unfold doKind
        rw [ht, hsp, hg]
        cases kindNames.idxOf? s2.data.toList <;> rfl
      show Calls _ _ _ _ fun e w' => LineOut q n₀ (doKind st (wl [a0, s1, s2])) w e w'
      rw [hdo]
      refine (ranged_kind q n₀ v xs n w h1 hn₀ (by rw [h2.k.2]; exact hsm.2) b off c a0 s1 s2 z1 c0 c1 c2 hkb lo hi hsp KT _ rfl).mono ?_
      rintro e w' (⟨kk, ho, rfl, hp⟩ | ⟨ho, rfl, hb⟩)
      · rw [ho]
        exact ⟨rfl, Put.kind' h1 h2 hp⟩
      · rw [ho]
        exact ⟨rfl, by decide, hb⟩
theorem points_err : ∀ {l : List Bytes} {k : Int}, pointsOf l = .error k → 0 < k
  | [], k, h => by simp [pointsOf] at h
  | w :: l, k, h => by
    simp only [pointsOf] at h
    cases hp : pointOf w with
    | error e => rw [hp] at h; injection h with h; subst h; exact err_pos hp
    | ok n =>
      rw [hp] at h
      simp only at h
      cases hq : pointsOf l with
      | error e => rw [hq] at h; injection h with h; subst h; exact points_err hq
      | ok ns => rw [hq] at h; cases h
theorem single_err {isF : Bool} {F D : List (Int × List Int)} {ws : List Bytes} {k : Int} (h : singleOf isF F D ws = .error k) : 0 < k := by
  unfold singleOf at h
  cases hp : pointsOf ws.tail with
  | error e => rw [hp] at h; injection h with h; subst h; exact points_err hp
  | ok l =>
    rw [hp] at h
    cases l with
    | nil => injection h with h; omega
    | cons r ps =>
      simp only at h
      cases isF
      · simp only [Bool.false_eq_true, if_false] at h
        split at h
        · injection h with h; omega
        · split at h
          · injection h with h; omega
          · cases h
      · simp only [if_true] at h
        split at h
        · injection h with h; omega
        · cases h
theorem some_points {w : List Bytes} (h3 : 3 ≤ w.length) (h10 : w.length ≤ 10) : someOf w = pointsOf w.tail := by
  unfold someOf
  rw [if_neg (by omega), if_neg (by omega)]
theorem single_fold {st : St} {w : List Bytes} (h3 : 3 ≤ w.length) (h10 : w.length ≤ 10) : doFold st w = match singleOf true st.d.folds st.d.decomps w with | .error e => .error e | .ok p => .ok { st with d := { st.d with folds := st.d.folds ++ [p] } } := by
  unfold doFold singleOf
  rw [some_points h3 h10]
  cases pointsOf w.tail with
  | error e => rfl
  | ok l =>
    cases l with
    | nil => rfl
    | cons r ps =>
      simp only [if_true]
      split <;> rfl
theorem single_decomp {st : St} {w : List Bytes} {line : Int} (h3 : 3 ≤ w.length) (h10 : w.length ≤ 10) : doDecomp st w line = match singleOf false st.d.folds st.d.decomps w with | .error e => .error e | .ok p => .ok { d := { st.d with decomps := st.d.decomps ++ [p] }, lines := st.lines ++ [(p.1, line)] } := by
  unfold doDecomp singleOf
  rw [some_points h3 h10]
  cases pointsOf w.tail with
  | error e => rfl
  | ok l =>
    cases l with
    | nil => rfl
    | cons r ps =>
      simp only [Bool.false_eq_true, if_false]
      split
      · rfl
      · split <;> rfl
theorem single_all (q n₀ : Nat) (st : St) (w : World) (h : RefSt q n₀ w st) (hn₀ : n₀ ≤ w.heap.size) (hsm : st.d.folds.length ≤ 1048576 ∧ st.d.decomps.length ≤ 1048576) (ws : List ByteArray) (hws : ∀ x ∈ ws, x.size ≤ 1048576) (b off c : Nat)
    (hc : ∀ i s, ws[i]? = some s → w.cell? ⟨b, off + i, none⟩ = some (.string s)) (s0 : ByteArray) (hs0 : ws[0]? = some s0) (isF : Bool) (hk : s0.data.toList = if isF then nameFold else nameDecomp) (line : Int) :
    Calls Tryz.prog 90 #[.pointer (some ⟨q, 0, none⟩), .slice (some ⟨b, off, none⟩) ws.length c, .int .i64 line] w fun e w' => LineOut q n₀ (doLine st (wl ws) line) w e w' := by
  have hd : doLine st (wl ws) line = if isF then doFold st (wl ws) else doDecomp st (wl ws) line := by
    rw [doLine_name (wl_at' hs0), hk]
    cases isF <;> rfl
  rw [hd]
  by_cases h3 : ws.length < 3
  · have ht : someOf (wl ws) = .error 2 := by unfold someOf; rw [if_pos (by rw [wl_length]; exact h3)]
    refine (single_few q _ _ c line w h3).mono ?_
    rintro e w' ⟨rfl, hb⟩
    cases isF
    · show LineOut _ _ (doDecomp st (wl ws) line) _ _ _
      unfold doDecomp
      rw [ht]
      exact ⟨rfl, by decide, hb⟩
    · show LineOut _ _ (doFold st (wl ws)) _ _ _
      unfold doFold
      rw [ht]
      exact ⟨rfl, by decide, hb⟩
  by_cases h10 : 10 < ws.length
  · have ht : someOf (wl ws) = .error 5 := by unfold someOf; rw [if_neg (by rw [wl_length]; exact h3), if_pos (by rw [wl_length]; exact h10)]
    refine (single_lots q _ _ c line w h10).mono ?_
    rintro e w' ⟨rfl, hb⟩
    cases isF
    · show LineOut _ _ (doDecomp st (wl ws) line) _ _ _
      unfold doDecomp
      rw [ht]
      exact ⟨rfl, by decide, hb⟩
    · show LineOut _ _ (doFold st (wl ws)) _ _ _
      unfold doFold
      rw [ht]
      exact ⟨rfl, by decide, hb⟩
  obtain ⟨v, xs, n, h1, h2⟩ := h
  obtain ⟨ks, hks⟩ := h2.f.1
  refine (single_calls q n₀ v xs n line w h1 hn₀ (by rw [h2.f.2]; exact hsm.1) (by rw [h2.d.2]; exact hsm.2) b off c ws hws hc (by omega) (by omega) s0 hs0 isF (by rw [Lib.toList_data, hk]; cases isF <;> rfl) st.d.folds st.d.decomps ks _ hks h2.f.2 h2.d.1 h2.d.2).mono ?_
  intro e w' ho
  cases isF
  · show LineOut _ _ (doDecomp st (wl ws) line) _ _ _
    rw [single_decomp (by rw [wl_length]; omega) (by rw [wl_length]; omega)]
    cases hs : singleOf false st.d.folds st.d.decomps (wl ws) with
    | error k =>
      rw [hs] at ho
      exact ⟨ho.1, single_err hs, ho.2⟩
    | ok p =>
      rw [hs] at ho
      obtain ⟨e1, tv, ht, hp⟩ := ho
      exact ⟨e1, Put.decomp' h1 h2 ht hp⟩
  · show LineOut _ _ (doFold st (wl ws)) _ _ _
    rw [single_fold (by rw [wl_length]; omega) (by rw [wl_length]; omega)]
    cases hs : singleOf true st.d.folds st.d.decomps (wl ws) with
    | error k =>
      rw [hs] at ho
      exact ⟨ho.1, single_err hs, ho.2⟩
    | ok p =>
      rw [hs] at ho
      obtain ⟨e1, tv, ht, hp⟩ := ho
      exact ⟨e1, Put.fold' h1 h2 ht hp⟩
end Go.Proofs.YtikpkjpnehkbfaaGreatDoor.Rf
namespace Go.Proofs.YtikpkjpnehkbfaaGreatDoor.Rf
open Go Go.RowKit Go.Shelf Go.Proofs.YtikpkjpnehkbfaaGreatDoor.Sp Go.Proofs.YtikpkjpnehkbfaaGreatDoor.Pr Go.Proofs.YtikpkjpnehkbfaaGreatDoor.Rowl
theorem flatR_at : ∀ {l : List Row} {i : Nat} {x : Row}, l[i]? = some x → (flatR l)[i * 3]? = some (.int .i64 x.lo) ∧ (flatR l)[i * 3 + 1]? = some (.int .i64 x.hi) ∧ (flatR l)[i * 3 + 2]? = some (.int .i64 x.n)
  | y :: l, 0, x, h => by
    simp only [List.getElem?_cons_zero, Option.some.injEq] at h
    subst h
    exact ⟨rfl, rfl, rfl⟩
  | y :: l, i + 1, x, h => by
    obtain ⟨h1, h2, h3⟩ := flatR_at (l := l) (i := i) (x := x) (by simpa using h)
    have e : flatR (y :: l) = [.int .i64 y.lo, .int .i64 y.hi, .int .i64 y.n] ++ flatR l := rfl
    refine ⟨?_, ?_, ?_⟩
    · rw [e, show (i + 1) * 3 = i * 3 + 3 by omega]; simpa using h1
    · rw [e, show (i + 1) * 3 + 1 = i * 3 + 1 + 3 by omega]; simpa using h2
    · rw [e, show (i + 1) * 3 + 2 = i * 3 + 2 + 3 by omega]; simpa using h3
  | [], i, x, h => by simp at h
def RowsAt (W : World) (A : Option Addr) (l : List Row) : Prop := ∀ (j : Nat) (x : Row), l[j]? = some x → ∃ g, A = some ⟨g, 0, none⟩ ∧ W.cell? ⟨g, j * 3, none⟩ = some (.int .i64 x.lo) ∧ W.cell? ⟨g, j * 3 + 1, none⟩ = some (.int .i64 x.hi) ∧ W.cell? ⟨g, j * 3 + 2, none⟩ = some (.int .i64 x.n)
theorem rows_at {W : World} {n₀ m : Nat} {fv : Value} {l : List Row} (ho : W.ownsRow n₀ 180 3 fv m (flatR l)) (hl : m = l.length) : ∃ A c, fv = .slice A l.length c ∧ RowsAt W A l := by
  subst hl
  by_cases h0 : 0 < l.length
  · obtain ⟨g, c, rfl, _, _, _, _⟩ := own_some ho h0
    refine ⟨_, c, rfl, fun i p hp => ⟨g, rfl, ?_⟩⟩
    obtain ⟨a1, a2, a3⟩ := flatR_at hp
    have hc := World.ownsRow.cells ho (g := g) rfl
    refine ⟨?_, ?_, ?_⟩
    · have := hc (i * 3) _ a1
      rwa [show ((⟨g, 0, none⟩ : Addr).add (i * 3)) = ⟨g, i * 3, none⟩ by (unfold Addr.add; split <;> simp_all)] at this
    · have := hc (i * 3 + 1) _ a2
      rwa [show ((⟨g, 0, none⟩ : Addr).add (i * 3 + 1)) = ⟨g, i * 3 + 1, none⟩ by (unfold Addr.add; simp)] at this
    · have := hc (i * 3 + 2) _ a3
      rwa [show ((⟨g, 0, none⟩ : Addr).add (i * 3 + 2)) = ⟨g, i * 3 + 2, none⟩ by (unfold Addr.add; simp)] at this
  · have : l = [] := List.eq_nil_of_length_eq_zero (by omega)
    subst this
    obtain ⟨A, c, rfl⟩ := own_slice ho
    exact ⟨A, c, rfl, fun i p hp => by simp at hp⟩
theorem RefAt.classes {q : Nat} {W : World} {st : St} (h : RefAt q W st) : ∃ A c, W.cell? ⟨q, 0, none⟩ = some (.slice A st.d.classes.length c) ∧ RowsAt W A st.d.classes ∧ st.d.classes.length ≤ 1048576 := by
  obtain ⟨⟨n₀, v, xs, n, h1, h2⟩, h3⟩ := h
  obtain ⟨A, c, e, hc⟩ := rows_at (l := st.d.classes) (by rw [← h2.c.1]; exact h1.own 0 (by decide)) h2.c.2
  exact ⟨A, c, by rw [cell_of_row W q 0 _ _ (0, 0) h1.hp, ← e]; rfl, hc, h3.2.1⟩
theorem said_hit {l : List Row} {r other : Int} {j : Nat} {x : Row} (h : l[j]? = some x) (hx : x.has r = true) : Sp.said (l.take (j + 1)) r other = x.n := by
  unfold Sp.said
  rw [List.take_add_one, h, List.reverse_append]
  simp [hx]
theorem said_miss {l : List Row} {r other : Int} {j : Nat} {x : Row} (h : l[j]? = some x) (hx : x.has r = false) : Sp.said (l.take (j + 1)) r other = Sp.said (l.take j) r other := by
  unfold Sp.said
  rw [List.take_add_one, h, List.reverse_append]
  simp [hx]
set_option maxHeartbeats 4000000 in
set_option maxRecDepth 100000 in
theorem rsaid_calls (W : World) (A : Option Addr) (c : Nat) (l : List Row) (hl : l.length ≤ 1048576) (h : RowsAt W A l) (r other : Int) (hr0 : -2147483648 ≤ r) (hr1 : r ≤ 2147483647) : Calls Tryz.prog 103 #[.slice A l.length c, .int .i32 r, .int .i64 other] W fun e w' => e = .returned (.int .i64 (Sp.said l r other)) ∧ W = w' := by
  have H := Lib.hid h
  clear h
  go_enter Tryz.func103, Tryz.ntmps103
  go_wp2
  go_loop [7] (fun vi => ∃ i : Int, vi = .int .i64 i ∧ -1 ≤ i ∧ i < l.length ∧ Hid (Sp.said (l.take (i + 1).toNat) r other = Sp.said l r other)) (fun vi => (intOf vi + 1).toNat)
  case atStart => exact ⟨l.length - 1, by go_num, by omega, by omega, Lib.hid (by rw [List.take_of_length_le (by omega)])⟩
  case round =>
    obtain ⟨i, rfl, hi0, hi1, HI⟩ := hrel
    by_cases hge : 0 ≤ i
    · obtain ⟨j, rfl⟩ : ∃ j : Nat, i = j := ⟨i.toNat, by omega⟩
      have hjl : j < l.length := by omega
      obtain ⟨x, hx⟩ : ∃ x, l[j]? = some x := ⟨_, List.getElem?_eq_getElem hjl⟩
      obtain ⟨g, rfl, c0, c1, c2⟩ := H.out j x hx
      have HX := Lib.hid hx
      obtain ⟨lo, hi, n⟩ := x
      simp only at c0 c1 c2
      clear hx
      have hcase : (lo ≤ r ∧ r ≤ hi ∧ (⟨lo, hi, n⟩ : Row).has r = true) ∨ (¬ lo ≤ r ∧ (⟨lo, hi, n⟩ : Row).has r = false) ∨ (lo ≤ r ∧ ¬ r ≤ hi ∧ (⟨lo, hi, n⟩ : Row).has r = false) := by
        unfold Row.has
        by_cases h1 : lo ≤ r <;> by_cases h2 : r ≤ hi <;> simp [h1, h2]
      rcases hcase with ⟨h1, h2, hh⟩ | ⟨h1, hh⟩ | ⟨h1, h2, hh⟩
      · have HR : Hid (Sp.said l r other = n) := Lib.hid (by
          rw [← HI.out, show ((j : Int) + 1).toNat = j + 1 by omega]
          exact said_hit HX.out hh)
        clear hh
        go_wp2
        go_ret
        rw [HR.out]
        exact ⟨rfl, rfl⟩
      · have HN : Hid (Sp.said (l.take ((j : Int) - 1 + 1).toNat) r other = Sp.said l r other) := Lib.hid (by
          rw [← HI.out, show ((j : Int) + 1).toNat = j + 1 by omega, show ((j : Int) - 1 + 1).toNat = j by omega]
          exact (said_miss HX.out hh).symm)
        clear hh
        go_wp2
        go_round
        case rel => exact ⟨(j : Int) - 1, by go_num, by omega, by omega, HN⟩
        case measure => simp [intOf]; try omega
      · have HN : Hid (Sp.said (l.take ((j : Int) - 1 + 1).toNat) r other = Sp.said l r other) := Lib.hid (by
          rw [← HI.out, show ((j : Int) + 1).toNat = j + 1 by omega, show ((j : Int) - 1 + 1).toNat = j by omega]
          exact (said_miss HX.out hh).symm)
        clear hh
        go_wp2
        go_round
        case rel => exact ⟨(j : Int) - 1, by go_num, by omega, by omega, HN⟩
        case measure => simp [intOf]; try omega
    · have hie : i = -1 := by omega
      subst hie
      have HR : Hid (Sp.said l r other = other) := Lib.hid (by rw [← HI.out]; rfl)
      go_wp2
      go_ret
      rw [HR.out]
      exact ⟨rfl, rfl⟩
set_option maxHeartbeats 4000000 in
set_option maxRecDepth 100000 in
theorem rclass_calls (q : Nat) (st : St) (r : Int) (hr0 : -2147483648 ≤ r) (hr1 : r ≤ 2147483647) (w : World) (h : RefAt q w st) : Calls Tryz.prog 58 #[.pointer (some ⟨q, 0, none⟩), .int .i32 r] w fun e w' => e = .returned (.int .i64 (classOf st.d r)) ∧ w = w' := by
  obtain ⟨A, c, hq, hc, hl⟩ := h.classes
  have HS := Lib.hid (rsaid_calls w A c st.d.classes hl hc r 0 hr0 hr1)
  have HC : Hid (classOf st.d r = if !isChar r || isSyl r || isJamo r then 0 else Sp.said st.d.classes r 0) := Lib.hid rfl
  clear h hc
  cases h1 : isChar r with
  | false =>
    go_enter Tryz.func58, Tryz.ntmps58
    go_wp2_with (first | (go_at_call 100; (with_reducible refine (char_calls _ _).mono ?_); rintro e w6 ⟨rfl, hw⟩; subst w6) | (go_at_call 101; (with_reducible refine (syl_calls _ _).mono ?_); rintro e w6 ⟨rfl, hw⟩; subst w6) | (go_at_call 102; (with_reducible refine (jam_calls _ _).mono ?_); rintro e w6 ⟨rfl, hw⟩; subst w6))
    go_ret
    rw [HC.out, h1]
    exact ⟨rfl, rfl⟩
  | true =>
    cases h2 : isSyl r with
    | true =>
      go_enter Tryz.func58, Tryz.ntmps58
      go_wp2_with (first | (go_at_call 100; (with_reducible refine (char_calls _ _).mono ?_); rintro e w6 ⟨rfl, hw⟩; subst w6) | (go_at_call 101; (with_reducible refine (syl_calls _ _).mono ?_); rintro e w6 ⟨rfl, hw⟩; subst w6) | (go_at_call 102; (with_reducible refine (jam_calls _ _).mono ?_); rintro e w6 ⟨rfl, hw⟩; subst w6))
      go_ret
      rw [HC.out, h1, h2]
      exact ⟨rfl, rfl⟩
    | false =>
      cases h3 : isJamo r with
      | true =>
        go_enter Tryz.func58, Tryz.ntmps58
        go_wp2_with (first | (go_at_call 100; (with_reducible refine (char_calls _ _).mono ?_); rintro e w6 ⟨rfl, hw⟩; subst w6) | (go_at_call 101; (with_reducible refine (syl_calls _ _).mono ?_); rintro e w6 ⟨rfl, hw⟩; subst w6) | (go_at_call 102; (with_reducible refine (jam_calls _ _).mono ?_); rintro e w6 ⟨rfl, hw⟩; subst w6))
        go_ret
        rw [HC.out, h1, h2, h3]
        exact ⟨rfl, rfl⟩
      | false =>
        go_enter Tryz.func58, Tryz.ntmps58
        go_wp2_with (first | (go_at_call 100; (with_reducible refine (char_calls _ _).mono ?_); rintro e w6 ⟨rfl, hw⟩; subst w6) | (go_at_call 101; (with_reducible refine (syl_calls _ _).mono ?_); rintro e w6 ⟨rfl, hw⟩; subst w6) | (go_at_call 102; (with_reducible refine (jam_calls _ _).mono ?_); rintro e w6 ⟨rfl, hw⟩; subst w6) | (go_at_call 103; (with_reducible refine HS.out.mono ?_); rintro e w6 ⟨rfl, hw⟩; subst w6))
        go_ret
        rw [HC.out, h1, h2, h3]
        exact ⟨rfl, rfl⟩
end Go.Proofs.YtikpkjpnehkbfaaGreatDoor.Rf
