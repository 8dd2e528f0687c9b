/- The reference's lines of a file: the walk. -/
import Derived.Test.YtikpkjpnehkbfaaGreatDoorRefWords
namespace Go.Proofs.YtikpkjpnehkbfaaGreatDoor.Rf
open Go Go.RowKit Go.Shelf Go.Proofs.YtikpkjpnehkbfaaGreatDoor.Sp Go.Proofs.YtikpkjpnehkbfaaGreatDoor.Pr
set_option linter.unusedSimpArgs false

/-- The lines of a text, each without its 0D; what stands behind the last 0A is none if it is empty. -/
def lg : Bytes → Bytes → List Bytes
  | cur, [] => if cur = [] then [] else [stripCR cur]
  | cur, c :: l => if c = 10 then stripCR cur :: lg [] l else lg (cur ++ [c]) l
def LI (s : ByteArray) (a k : Nat) (ws : List ByteArray) : Prop := lg [] s.data.toList = wl ws ++ lg (s.extract a k).data.toList (s.data.toList.drop k) ∧ (∀ x ∈ ws, x.size ≤ s.size) ∧ a ≤ k ∧ ws.length ≤ k
theorem LI.start (s : ByteArray) : LI s 0 0 [] := ⟨by rw [ext_toList]; rfl, by simp, Nat.le_refl _, Nat.le_refl _⟩
theorem strip_drop {t : ByteArray} (hp : 0 < t.size) (h : t[t.size - 1] = 13) : (t.extract 0 (t.size - 1)).data.toList = stripCR t.data.toList := by
  have hl : t.data.toList.getLast? = some 13 := by
    rw [List.getLast?_eq_getElem?, ← Lib.size_eq, ← h]
    have hl : t.size - 1 < t.data.toList.length := by rw [← Lib.size_eq]; omega
    rw [List.getElem?_eq_getElem hl]
    rfl
  rw [ext_toList]
  unfold stripCR
  rw [if_pos hl, List.dropLast_eq_take, ← Lib.size_eq]
  rfl
theorem strip_keep {t : ByteArray} (h : t.size = 0 ∨ ∃ hp : 0 < t.size, t[t.size - 1] ≠ 13) : stripCR t.data.toList = t.data.toList := by
  unfold stripCR
  rcases h with h | ⟨hp, h⟩
  · rw [(bytes_nil t).2 h]; rfl
  · have hl : t.data.toList.getLast? = some t[t.size - 1] := by
      rw [List.getLast?_eq_getElem?, ← Lib.size_eq]
      have hl : t.size - 1 < t.data.toList.length := by rw [← Lib.size_eq]; omega
      rw [List.getElem?_eq_getElem hl]
      rfl
    rw [hl, if_neg (by simpa using h)]
section
variable {s : ByteArray} {a k : Nat} {ws : List ByteArray}
theorem ext_snoc (h : a ≤ k) (hlt : k < s.size) : (s.extract a (k + 1)).data.toList = (s.extract a k).data.toList ++ [s[k]] := by
  rw [ext_toList, ext_toList]
  have e : s.data.toList.length = s.size := (Lib.size_eq s).symm
  rw [show k + 1 - a = (k - a) + 1 by omega, List.take_add_one, List.getElem?_drop, show a + (k - a) = k by omega, List.getElem?_eq_getElem (by omega)]
  rfl
theorem LI.next (h : LI s a k ws) (hlt : k < s.size) (hc : s[k] ≠ 10) : LI s a (k + 1) ws := by
  obtain ⟨h1, h2, h3, h4⟩ := h
  refine ⟨?_, h2, by omega, by omega⟩
  rw [h1, drop_cons s k hlt, ext_snoc h3 hlt]
  conv => lhs; rw [lg, if_neg hc]
/-- A line, taken. -/
theorem LI.line (h : LI s a k ws) (hlt : k < s.size) (hc : s[k] = 10) {x : ByteArray} (hx : x.data.toList = stripCR (s.extract a k).data.toList) (hxs : x.size ≤ s.size) : LI s (k + 1) (k + 1) (ws ++ [x]) := by
  obtain ⟨h1, h2, h3, h4⟩ := h
  refine ⟨?_, ?_, Nat.le_refl _, by simp; omega⟩
  · rw [h1, drop_cons s k hlt]
    conv => lhs; rw [lg, if_pos hc]
    have e : (s.extract (k + 1) (k + 1)).data.toList = [] := by rw [ext_toList]; simp
    rw [e]
    simp [wl, hx]
  · intro y hy
    rcases List.mem_append.1 hy with hy | hy
    · exact h2 y hy
    · simp only [List.mem_singleton] at hy
      subst hy
      exact hxs
theorem LI.last (h : LI s a s.size ws) (he : (s.extract a s.size).data.toList ≠ []) {x : ByteArray} (hx : x.data.toList = stripCR (s.extract a s.size).data.toList) : wl (ws ++ [x]) = lg [] s.data.toList := by
  obtain ⟨h1, _⟩ := h
  rw [h1, List.drop_eq_nil_of_le (by rw [Lib.size_eq]; exact Nat.le_refl _)]
  rw [lg, if_neg he]
  simp [wl, hx]
theorem LI.none (h : LI s s.size s.size ws) : wl ws = lg [] s.data.toList := by
  obtain ⟨h1, _⟩ := h
  rw [h1, List.drop_eq_nil_of_le (by rw [Lib.size_eq]; exact Nat.le_refl _)]
  have e : (s.extract s.size s.size).data.toList = [] := by rw [ext_toList]; simp
  rw [e, lg, if_pos rfl, List.append_nil]
end
def LinesOut (s : ByteArray) (n₀ : Nat) (e : Ending) (w' : World) : Prop := ∃ v ws, e = .returned v ∧ OwnStrs n₀ w' v ws ∧ wl ws = lg [] s.data.toList ∧ (∀ x ∈ ws, x.size ≤ s.size) ∧ ws.length ≤ s.size + 1
set_option maxHeartbeats 8000000 in
set_option maxRecDepth 100000 in
theorem lines_calls (s : ByteArray) (hs : s.size ≤ 1048576) (w : World) : Calls Tryz.prog 87 #[.string s] w fun e w' => LinesOut s w.heap.size e w' ∧ Below w.heap.size w w' := by
  go_enter Tryz.func87, Tryz.ntmps87
  go_wp2
  go_loopw [3, 4, 5] (fun vl va vi wr => ∃ (k a : Nat) (v : Value) (ws : List ByteArray), vi = .int .i64 k ∧ va = .int .i64 a ∧ vl = v ∧ k ≤ s.size + 1 ∧ Hid (OwnStrs w.heap.size wr v ws) ∧ Hid (Below w.heap.size w wr) ∧
    ((k ≤ s.size ∧ Hid (LI s a k ws)) ∨ (k = s.size + 1 ∧ Hid (wl ws = lg [] s.data.toList ∧ (∀ x ∈ ws, x.size ≤ s.size) ∧ ws.length ≤ s.size + 1)))) (fun _ _ vi _ => s.size + 1 - (intOf vi).toNat)
  case atStart => exact ⟨0, 0, _, [], rfl, rfl, rfl, by omega, Lib.hid (ownS_nil _ _), Lib.hid (Below.refl _ _), .inl ⟨by omega, Lib.hid (LI.start s)⟩⟩
  case round =>
    obtain ⟨k, a, v, ws, rfl, rfl, rfl, hk, HO, HW, hI⟩ := hrel
    obtain ⟨A, C, rfl⟩ := HO.out.slice
    have HWz : w.heap.size ≤ wr.heap.size := HW.out.size
    rcases hI with ⟨hk2, HI⟩ | ⟨hk2, HD⟩
    · have hwl : ws.length ≤ 1048577 := by have := HI.out.2.2.2; omega
      have hak : a ≤ k := HI.out.2.2.1
      have hwk : ws.length ≤ k := HI.out.2.2.2
      by_cases hke : k = s.size
      · subst hke
        by_cases ha : a = s.size
        · subst ha
          have HD := Lib.hid (And.intro HI.out.none (And.intro HI.out.2.1 (show ws.length ≤ s.size + 1 by omega)))
          clear HI
          go_wp2
          refine ⟨⟨s.size + 1, s.size, _, _, by go_num, rfl, rfl, by omega, HO, HW, .inr ⟨rfl, HD⟩⟩, ?_⟩
          simp [intOf]
          try omega
        · have hne : ((a : Int) == (s.size : Int)) = false := by rw [beq_eq_false_iff_ne]; omega
          have hts : (s.extract a s.size).size = s.size - a := by rw [ByteArray.size_extract]; omega
          have HL : Hid (∀ x : ByteArray, x.data.toList = stripCR (s.extract a s.size).data.toList → wl (ws ++ [x]) = lg [] s.data.toList) := Lib.hid fun x hx => HI.out.last (fun e => by rw [bytes_nil] at e; omega) hx
          have HS : Hid (∀ x : ByteArray, x.size ≤ (s.extract a s.size).size → ∀ y ∈ ws ++ [x], y.size ≤ s.size) := Lib.hid fun x hx y hy => by
            rcases List.mem_append.1 hy with hy | hy
            · exact HI.out.2.1 y hy
            · simp only [List.mem_singleton] at hy
              subst hy
              omega
          go_upto_region 8 with fail
          generalize s.extract a s.size = t at *
          have ht1 : 0 < t.size := by omega
          have ht2 : t.size ≤ s.size := by omega
          clear hts HI
          have hp : 0 < t.size := by omega
          have e0 : ¬ t.toList = [] := by rw [Lib.toList_data, bytes_nil]; omega
          have e1 : t.toList.isEmpty = false := by cases h : t.toList with
            | nil => exact absurd h e0
            | cons => rfl
          by_cases h13 : t[t.size - 1] = 13
          · have b13 : ((t[t.size - 1].toNat : Int) == 13) = true := by rw [h13]; rfl
            have HD := Lib.hid (And.intro (HL.out (t.extract 0 (t.size - 1)) (by exact strip_drop hp h13)) (And.intro (HS.out (t.extract 0 (t.size - 1)) (by first | exact Nat.le_refl _ | (rw [ByteArray.size_extract]; omega))) (show (ws ++ [t.extract 0 (t.size - 1)]).length ≤ s.size + 1 by simp; omega)))
            clear h13 HL HS
            go_wp2_with (at_builtin; refine wpList_append_str rfl _ _ rfl w.heap.size _ ws rfl HO.out rfl (by omega) HWz ?_; intro v2 w2 ho2 hb2; obtain ⟨A2, C2, rfl⟩ := ho2.slice; rw [List.length_append] at ho2; have HO2 : Hid (OwnStrs w.heap.size w2 (.slice A2 (ws.length + 1) C2) (ws ++ [t.extract 0 (t.size - 1)])) := Lib.hid ho2; have HW2 := Lib.hid (HW.out.trans hb2); clear ho2 hb2)
            refine ⟨⟨s.size + 1, s.size + 1, _, _, by go_num, by go_num, rfl, by omega, HO2, HW2, .inr ⟨rfl, HD⟩⟩, ?_⟩
            simp [intOf]
            try omega
          · have b13 : ((t[t.size - 1].toNat : Int) == 13) = false := beq_eq_false_iff_ne.2 (fun e => h13 (UInt8.toNat_inj.1 (by show t[t.size - 1].toNat = 13; omega)))
            have HD := Lib.hid (And.intro (HL.out (t) (by exact (strip_keep (.inr ⟨hp, h13⟩)).symm)) (And.intro (HS.out (t) (by first | exact Nat.le_refl _ | (rw [ByteArray.size_extract]; omega))) (show (ws ++ [t]).length ≤ s.size + 1 by simp; omega)))
            clear h13 HL HS
            go_wp2_with (at_builtin; refine wpList_append_str rfl _ _ rfl w.heap.size _ ws rfl HO.out rfl (by omega) HWz ?_; intro v2 w2 ho2 hb2; obtain ⟨A2, C2, rfl⟩ := ho2.slice; rw [List.length_append] at ho2; have HO2 : Hid (OwnStrs w.heap.size w2 (.slice A2 (ws.length + 1) C2) (ws ++ [t])) := Lib.hid ho2; have HW2 := Lib.hid (HW.out.trans hb2); clear ho2 hb2)
            refine ⟨⟨s.size + 1, s.size + 1, _, _, by go_num, by go_num, rfl, by omega, HO2, HW2, .inr ⟨rfl, HD⟩⟩, ?_⟩
            simp [intOf]
            try omega
      · have hlt : k < s.size := by omega
        have hne2 : ((k : Int) == (s.size : Int)) = false := by rw [beq_eq_false_iff_ne]; omega
        by_cases hc : s[k] = 10
        · have b10 : ((s[k].toNat : Int) != 10) = false := by rw [hc]; rfl
          have hts : (s.extract a k).size = k - a := by rw [ByteArray.size_extract]; omega
          have HL : Hid (∀ x : ByteArray, x.data.toList = stripCR (s.extract a k).data.toList → x.size ≤ (s.extract a k).size → LI s (k + 1) (k + 1) (ws ++ [x])) := Lib.hid fun x hx hz => HI.out.line hlt hc hx (by omega)
          clear hc
          go_upto_region 8 with fail
          generalize s.extract a k = t at *
          have ht2 : t.size ≤ s.size := by omega
          clear hts HI
          by_cases h0 : t.size = 0
          · have e0 : t.toList = [] := by rw [Lib.toList_data]; exact (bytes_nil t).2 h0
            have e1 : t.toList.isEmpty = true := by rw [e0]; rfl
            have HN := Lib.hid (HL.out (t) (by exact (strip_keep (.inl h0)).symm) (by first | exact Nat.le_refl _ | (rw [ByteArray.size_extract]; omega)))
            clear h0 HL
            go_wp2_with (at_builtin; refine wpList_append_str rfl _ _ rfl w.heap.size _ ws rfl HO.out rfl (by omega) HWz ?_; intro v2 w2 ho2 hb2; obtain ⟨A2, C2, rfl⟩ := ho2.slice; rw [List.length_append] at ho2; have HO2 : Hid (OwnStrs w.heap.size w2 (.slice A2 (ws.length + 1) C2) (ws ++ [t])) := Lib.hid ho2; have HW2 := Lib.hid (HW.out.trans hb2); clear ho2 hb2)
            refine ⟨⟨k + 1, k + 1, _, _, by go_num, by go_num, rfl, by omega, HO2, HW2, .inl ⟨by omega, HN⟩⟩, ?_⟩
            simp [intOf]
            try omega
          · have hp : 0 < t.size := by omega
            have e0 : ¬ t.toList = [] := by rw [Lib.toList_data, bytes_nil]; omega
            have e1 : t.toList.isEmpty = false := by cases h : t.toList with
              | nil => exact absurd h e0
              | cons => rfl
            by_cases h13 : t[t.size - 1] = 13
            · have b13 : ((t[t.size - 1].toNat : Int) == 13) = true := by rw [h13]; rfl
              have HN := Lib.hid (HL.out (t.extract 0 (t.size - 1)) (by exact strip_drop hp h13) (by first | exact Nat.le_refl _ | (rw [ByteArray.size_extract]; omega)))
              clear h13 HL
              go_wp2_with (at_builtin; refine wpList_append_str rfl _ _ rfl w.heap.size _ ws rfl HO.out rfl (by omega) HWz ?_; intro v2 w2 ho2 hb2; obtain ⟨A2, C2, rfl⟩ := ho2.slice; rw [List.length_append] at ho2; have HO2 : Hid (OwnStrs w.heap.size w2 (.slice A2 (ws.length + 1) C2) (ws ++ [t.extract 0 (t.size - 1)])) := Lib.hid ho2; have HW2 := Lib.hid (HW.out.trans hb2); clear ho2 hb2)
              refine ⟨⟨k + 1, k + 1, _, _, by go_num, by go_num, rfl, by omega, HO2, HW2, .inl ⟨by omega, HN⟩⟩, ?_⟩
              simp [intOf]
              try omega
            · have b13 : ((t[t.size - 1].toNat : Int) == 13) = false := beq_eq_false_iff_ne.2 (fun e => h13 (UInt8.toNat_inj.1 (by show t[t.size - 1].toNat = 13; omega)))
              have HN := Lib.hid (HL.out (t) (by exact (strip_keep (.inr ⟨hp, h13⟩)).symm) (by first | exact Nat.le_refl _ | (rw [ByteArray.size_extract]; omega)))
              clear h13 HL
              go_wp2_with (at_builtin; refine wpList_append_str rfl _ _ rfl w.heap.size _ ws rfl HO.out rfl (by omega) HWz ?_; intro v2 w2 ho2 hb2; obtain ⟨A2, C2, rfl⟩ := ho2.slice; rw [List.length_append] at ho2; have HO2 : Hid (OwnStrs w.heap.size w2 (.slice A2 (ws.length + 1) C2) (ws ++ [t])) := Lib.hid ho2; have HW2 := Lib.hid (HW.out.trans hb2); clear ho2 hb2)
              refine ⟨⟨k + 1, k + 1, _, _, by go_num, by go_num, rfl, by omega, HO2, HW2, .inl ⟨by omega, HN⟩⟩, ?_⟩
              simp [intOf]
              try omega
        · have b10 : ((s[k].toNat : Int) != 10) = true := bne_iff_ne.2 (fun e => hc (UInt8.toNat_inj.1 (by show s[k].toNat = 10; omega)))
          have HN := Lib.hid (HI.out.next hlt hc)
          clear HI hc
          go_wp2
          refine ⟨⟨k + 1, a, _, _, by go_num, by go_num, rfl, by omega, HO, HW, .inl ⟨by omega, HN⟩⟩, ?_⟩
          simp [intOf]
          try omega
    · have hgt : (s.size : Int) < (k : Int) := by omega
      go_wp2
      go_ret
      exact ⟨⟨_, ws, rfl, HO.out, HD.out⟩, HW.out⟩
end Go.Proofs.YtikpkjpnehkbfaaGreatDoor.Rf
