/- The reference's words of a line, and lines of a file: the walks. -/
import Derived.Test.YtikpkjpnehkbfaaGreatDoorRefEnds
import Derived.Test.YtikpkjpnehkbfaaGreatDoorBPoints
namespace Go.Proofs.YtikpkjpnehkbfaaGreatDoor.Rf
open Go Go.RowKit Go.Shelf Go.Proofs.YtikpkjpnehkbfaaGreatDoor.Sp Go.Proofs.YtikpkjpnehkbfaaGreatDoor.Pr
set_option linter.unusedSimpArgs false

def encS (l : List ByteArray) : List Value := l.map Value.string
theorem encS_length (l : List ByteArray) : (encS l).length = l.length := by simp [encS]
theorem encS_one (l : List ByteArray) : ∀ u ∈ encS l, u.oneCell' = true := by
  intro u hu
  simp only [encS, List.mem_map] at hu
  obtain ⟨x, _, rfl⟩ := hu
  rfl
/-- A row of strings of a call's own. -/
def OwnStrs (n₀ : Nat) (w : World) (v : Value) (l : List ByteArray) : Prop := w.ownsRow n₀ 9 1 v l.length (encS l)
theorem ownS_nil (base : Nat) (W : World) : OwnStrs base W (.slice none 0 0) [] := ⟨rfl, .inl ⟨rfl, rfl⟩⟩
theorem infoStr : (Tryz.prog.info? 9).map (fun i => (i.zero, i.size, i.bytes)) = some (some (.string ⟨#[]⟩), 1, 16) := by kernel_rfl
/-- One string, just boxed, appended to such a row. -/
theorem wpList_append_str {ops : Array Oper} {rest : List Oper} {o : Oper} {ac : Act} {Q : Exit → Act → World → Prop} {W : World} {b : ByteArray} (hgd : o.guard = none) (s x : Operand)
    (ho : o.op = .call { callee := .builtin .append, args := #[s, x], argTypes := #[105, 105] })
    (base : Nat) (v : Value) (L : List ByteArray) (hs : ac.eval s = v) (hown : OwnStrs base W v L) (hx : ac.eval x = .slice (some ⟨W.heap.size, 0, none⟩) 1 1)
    (h63 : L.length ≤ 1048577) (hbase : base ≤ W.heap.size)
    (h : ∀ v' w', OwnStrs base w' v' (L ++ [b]) → Below base W w' → wpList Tryz.prog ops Q rest (ac.put o.dst v') w') :
    wpList Tryz.prog ops Q (o :: rest) ac (W.alloc (.cells #[.string b] 9)) := by
  obtain ⟨i, hi, hz0, hz1, hz2⟩ := info_parts infoStr
  refine wpList_append_own_at (W.alloc (.cells #[.string b] 9)) hgd s x 105 ho base 9 i (.string ⟨#[]⟩) 1 16 Tryz.underlying105 hi hz0 hz1 hz2 rfl (by decide) v L.length (encS L) hs (World.ownsRow.alloc hown _) ⟨W.heap.size, 0, none⟩ 1 1 (encS [b]) hx (by simp [encS]) (cells_laid W (encS [b]) rfl (by simp [encS, maxLen])) (encS_one [b]) (by simp only [maxLen]; omega) (by omega) (by rw [World.size_alloc]; omega) ?_
  intro v' w' ho' hg _ _
  refine h v' w' ?_ (((Below.refl _ W).alloc hbase _).grown hg (by rw [World.size_alloc]; omega) (fun k e => (own_block hown e).1))
  unfold OwnStrs
  rw [show encS (L ++ [b]) = encS L ++ encS [b] by simp [encS], List.length_append]
  exact ho'
theorem OwnStrs.slice {n₀ : Nat} {W : World} {v : Value} {l : List ByteArray} (h : OwnStrs n₀ W v l) : ∃ A c, v = .slice A l.length c := YtikpkjpnehkbfaaGreatDoor.Rowl.own_slice h
theorem OwnStrs.words {n₀ : Nat} {W : World} {v : Value} {l : List ByteArray} (h : OwnStrs n₀ W v l) (hl : 0 < l.length) : WordsAt W.heap.size W v l := by
  obtain ⟨g, c, rfl, _, hlt, hc, hm⟩ := YtikpkjpnehkbfaaGreatDoor.Rowl.own_some h hl
  refine ⟨g, 0, c, rfl, hlt, hc, hm, fun i x hi => ?_⟩
  have := World.ownsRow.cells h (g := g) rfl i (.string x) (by unfold encS; rw [List.getElem?_map, hi]; rfl)
  rw [show ((⟨g, 0, none⟩ : Addr).add i) = ⟨g, 0 + i, none⟩ by (unfold Addr.add; split <;> simp_all)] at this
  exact this

/-! ### words -/
def WI (s : ByteArray) (k : Nat) (ws : List ByteArray) (word : ByteArray) : Prop :=
  wordsGo (beforeHash s.data.toList) [] = wl ws ++ wordsGo (beforeHash (s.data.toList.drop k)) word.data.toList ∧ (∀ x ∈ ws, x.size ≤ s.size ∧ 0 < x.size) ∧ word.size ≤ k ∧ ws.length ≤ k
theorem drop_cons (s : ByteArray) (k : Nat) (h : k < s.size) : s.data.toList.drop k = s[k] :: s.data.toList.drop (k + 1) := by
  have hk : k < s.data.toList.length := by rw [← Lib.size_eq]; exact h
  rw [List.drop_eq_getElem_cons hk]
  rfl
theorem bytes_nil (b : ByteArray) : b.data.toList = [] ↔ b.size = 0 := by
  rw [Lib.size_eq]
  exact List.length_eq_zero_iff.symm
section
variable {s word : ByteArray} {k : Nat} {ws : List ByteArray}
theorem WI.start (s : ByteArray) : WI s 0 [] ⟨#[]⟩ := ⟨rfl, by simp, Nat.le_refl _, Nat.le_refl _⟩
theorem WI.blank (h : WI s k ws word) (hlt : k < s.size) (hc : isBlank s[k] = true) (h35 : s[k] ≠ 35) (hw : 0 < word.size) : WI s (k + 1) (ws ++ [word]) ⟨#[]⟩ := by
  obtain ⟨h1, h2, h3, h4⟩ := h
  have hne : word.data.toList ≠ [] := fun e => by rw [bytes_nil] at e; omega
  refine ⟨?_, ?_, Nat.zero_le _, by simp; omega⟩
  · rw [h1, drop_cons s k hlt]
    unfold beforeHash
    rw [List.takeWhile_cons, if_pos (by simpa using h35)]
    simp only [wordsGo, hc, if_true, if_neg hne]
    simp [wl]
  · intro x hx
    rcases List.mem_append.1 hx with hx | hx
    · exact h2 x hx
    · simp only [List.mem_singleton] at hx
      subst hx
      exact ⟨by omega, hw⟩
theorem WI.blank0 (h : WI s k ws word) (hlt : k < s.size) (hc : isBlank s[k] = true) (h35 : s[k] ≠ 35) (hw : word.size = 0) : WI s (k + 1) ws ⟨#[]⟩ := by
  obtain ⟨h1, h2, h3, h4⟩ := h
  refine ⟨?_, h2, Nat.zero_le _, by omega⟩
  rw [h1, drop_cons s k hlt, (bytes_nil word).2 hw]
  unfold beforeHash
  rw [List.takeWhile_cons, if_pos (by simpa using h35)]
  simp only [wordsGo, hc, if_true]
theorem WI.char (h : WI s k ws word) (hlt : k < s.size) (hc : isBlank s[k] = false) (h35 : s[k] ≠ 35) : WI s (k + 1) ws (word ++ s.extract k (k + 1)) := by
  obtain ⟨h1, h2, h3, h4⟩ := h
  have hb : (word ++ s.extract k (k + 1)).data.toList = word.data.toList ++ [s[k]] := by
    rw [ByteArray.data_append, Array.toList_append, ext_toList, drop_cons s k hlt, show k + 1 - k = 1 by omega, List.take_succ_cons, List.take_zero]
  refine ⟨?_, h2, by rw [ByteArray.size_append, ByteArray.size_extract]; omega, by omega⟩
  rw [h1, hb, drop_cons s k hlt]
  unfold beforeHash
  rw [List.takeWhile_cons, if_pos (by simpa using h35)]
  simp only [wordsGo, hc, Bool.false_eq_true, if_false]
/-- The end: of the line, or a remark. -/
theorem WI.done (h : WI s k ws word) (he : k = s.size ∨ ∃ hlt : k < s.size, s[k] = 35) : (word.size = 0 → wl ws = wordsGo (beforeHash s.data.toList) []) ∧ (0 < word.size → wl (ws ++ [word]) = wordsGo (beforeHash s.data.toList) []) := by
  obtain ⟨h1, h2, h3, h4⟩ := h
  have hd : beforeHash (s.data.toList.drop k) = [] := by
    rcases he with rfl | ⟨hlt, hc⟩
    · rw [List.drop_eq_nil_of_le (by rw [Lib.size_eq]; exact Nat.le_refl _)]; rfl
    · rw [drop_cons s k hlt, hc]; rfl
  rw [h1, hd]
  constructor
  · intro h0
    rw [(bytes_nil word).2 h0]
    simp [wordsGo]
  · intro h0
    have hne : word.data.toList ≠ [] := fun e => by rw [bytes_nil] at e; omega
    simp [wordsGo, hne, wl]
theorem WI.sizes (h : WI s k ws word) (hk : k ≤ s.size) : (∀ x ∈ ws, x.size ≤ s.size ∧ 0 < x.size) ∧ (0 < word.size → ∀ x ∈ ws ++ [word], x.size ≤ s.size ∧ 0 < x.size) := by
  refine ⟨h.2.1, fun h0 x hx => ?_⟩
  rcases List.mem_append.1 hx with hx | hx
  · exact h.2.1 x hx
  · simp only [List.mem_singleton] at hx
    subst hx
    exact ⟨by have := h.2.2.1; omega, h0⟩
end
/-- What words answers. -/
def WordsOut (s : ByteArray) (n₀ : Nat) (e : Ending) (w' : World) : Prop := ∃ v ws, e = .returned v ∧ OwnStrs n₀ w' v ws ∧ wl ws = wordsGo (beforeHash s.data.toList) [] ∧ (∀ x ∈ ws, x.size ≤ s.size ∧ 0 < x.size) ∧ ws.length ≤ s.size + 1
set_option maxHeartbeats 8000000 in
set_option maxRecDepth 100000 in
theorem words_calls (s : ByteArray) (hs : s.size ≤ 1048576) (w : World) : Calls Tryz.prog 88 #[.string s] w fun e w' => WordsOut s w.heap.size e w' ∧ Below w.heap.size w w' := by
  go_enter Tryz.func88, Tryz.ntmps88
  go_wp2
  go_loopw [3, 4, 5] (fun vl vw vi wr => ∃ (k : Nat) (v : Value) (ws : List ByteArray) (word : ByteArray), vi = .int .i64 k ∧ vw = .string word ∧ vl = v ∧ k ≤ s.size + 1 ∧ Hid (OwnStrs w.heap.size wr v ws) ∧ Hid (Below w.heap.size w wr) ∧
    ((k ≤ s.size ∧ Hid (WI s k ws word)) ∨ (k = s.size + 1 ∧ Hid (wl ws = wordsGo (beforeHash s.data.toList) [] ∧ (∀ x ∈ ws, x.size ≤ s.size ∧ 0 < x.size) ∧ ws.length ≤ s.size + 1)))) (fun _ _ vi _ => s.size + 1 - (intOf vi).toNat)
  case atStart => exact ⟨0, _, [], _, rfl, rfl, rfl, by omega, Lib.hid (ownS_nil _ _), Lib.hid (Below.refl _ _), .inl ⟨by omega, Lib.hid (WI.start s)⟩⟩
  case round =>
    obtain ⟨k, v, ws, word, rfl, rfl, rfl, hk, HO, HW, hI⟩ := hrel
    obtain ⟨A, C, rfl⟩ := HO.out.slice
    have HWz : w.heap.size ≤ wr.heap.size := HW.out.size
    rcases hI with ⟨hk2, HI⟩ | ⟨hk2, HD⟩
    · have hwl : ws.length ≤ 1048577 := by have := HI.out.2.2.2; omega
      by_cases hke : k = s.size
      · subst hke
        by_cases h0 : word.size = 0
        · have e0 : word.toList = [] := by rw [Lib.toList_data]; exact (bytes_nil word).2 h0
          have e1 : word.toList.isEmpty = true := by rw [e0]; rfl
          have HD := Lib.hid (And.intro ((HI.out.done (.inl rfl)).1 h0) (And.intro (HI.out.sizes hk2).1 (show ws.length ≤ s.size + 1 by have := HI.out.2.2.2; omega)))
          clear h0 HI
          go_wp2
          refine ⟨⟨s.size + 1, _, _, _, by go_num, rfl, rfl, by omega, HO, HW, .inr ⟨rfl, HD⟩⟩, ?_⟩
          simp [intOf]
          try omega
        · have hp : 0 < word.size := by omega
          have e0 : ¬ word.toList = [] := by rw [Lib.toList_data, bytes_nil]; exact h0
          have e1 : word.toList.isEmpty = false := by cases h : word.toList with
            | nil => exact absurd h e0
            | cons => rfl
          have HD := Lib.hid (And.intro ((HI.out.done (.inl rfl)).2 hp) (And.intro ((HI.out.sizes hk2).2 hp) (show (ws ++ [word]).length ≤ s.size + 1 by have := HI.out.2.2.2; simp; omega)))
          clear h0 hp HI
          go_wp2_with (at_builtin; refine wpList_append_str rfl _ _ rfl w.heap.size _ ws rfl HO.out rfl (by omega) HWz ?_; intro v2 w2 ho2 hb2; obtain ⟨A2, C2, rfl⟩ := ho2.slice; rw [List.length_append] at ho2; have HO2 : Hid (OwnStrs w.heap.size w2 (.slice A2 (ws.length + 1) C2) (ws ++ [word])) := Lib.hid ho2; have HW2 := Lib.hid (HW.out.trans hb2); clear ho2 hb2)
          refine ⟨⟨s.size + 1, _, _, _, by go_num, rfl, rfl, by omega, HO2, HW2, .inr ⟨rfl, HD⟩⟩, ?_⟩
          simp [intOf]
          try omega
      · have hlt : k < s.size := by omega
        have hne : ((k : Int) == (s.size : Int)) = false := by rw [beq_eq_false_iff_ne]; omega
        by_cases h35 : s[k] = 35
        · have b35 : ((s[k].toNat : Int) == 35) = true := by rw [h35]; rfl
          by_cases h0 : word.size = 0
          · have e0 : word.toList = [] := by rw [Lib.toList_data]; exact (bytes_nil word).2 h0
            have e1 : word.toList.isEmpty = true := by rw [e0]; rfl
            have HD := Lib.hid (And.intro ((HI.out.done (.inr ⟨hlt, h35⟩)).1 h0) (And.intro (HI.out.sizes hk2).1 (show ws.length ≤ s.size + 1 by have := HI.out.2.2.2; omega)))
            clear h0 HI h35
            go_wp2
            go_ret
            exact ⟨⟨_, _, rfl, HO.out, HD.out⟩, HW.out⟩
          · have hp : 0 < word.size := by omega
            have e0 : ¬ word.toList = [] := by rw [Lib.toList_data, bytes_nil]; exact h0
            have e1 : word.toList.isEmpty = false := by cases h : word.toList with
              | nil => exact absurd h e0
              | cons => rfl
            have HD := Lib.hid (And.intro ((HI.out.done (.inr ⟨hlt, h35⟩)).2 hp) (And.intro ((HI.out.sizes hk2).2 hp) (show (ws ++ [word]).length ≤ s.size + 1 by have := HI.out.2.2.2; simp; omega)))
            clear h0 hp HI h35
            go_wp2_with (at_builtin; refine wpList_append_str rfl _ _ rfl w.heap.size _ ws rfl HO.out rfl (by omega) HWz ?_; intro v2 w2 ho2 hb2; obtain ⟨A2, C2, rfl⟩ := ho2.slice; rw [List.length_append] at ho2; have HO2 : Hid (OwnStrs w.heap.size w2 (.slice A2 (ws.length + 1) C2) (ws ++ [word])) := Lib.hid ho2; have HW2 := Lib.hid (HW.out.trans hb2); clear ho2 hb2)
            go_ret
            exact ⟨⟨_, _, rfl, HO2.out, HD.out⟩, HW2.out⟩
        · have b35 : ((s[k].toNat : Int) == 35) = false := beq_eq_false_iff_ne.2 (fun e => h35 (UInt8.toNat_inj.1 (by show s[k].toNat = 35; omega)))
          by_cases hb : isBlank s[k] = true
          · by_cases h32 : s[k] = 32
            · have b32 : ((s[k].toNat : Int) == 32) = true := by rw [h32]; rfl
              clear h32
              by_cases h0 : word.size = 0
              · have e0 : word.toList = [] := by rw [Lib.toList_data]; exact (bytes_nil word).2 h0
                have e1 : word.toList.isEmpty = true := by rw [e0]; rfl
                have HN := Lib.hid (HI.out.blank0 hlt hb h35 h0)
                clear h0 HI h35 hb
                go_wp2
                refine ⟨⟨k + 1, _, _, _, by go_num, rfl, rfl, by omega, HO, HW, .inl ⟨by omega, HN⟩⟩, ?_⟩
                simp [intOf]
                try omega
              · have hp : 0 < word.size := by omega
                have e0 : ¬ word.toList = [] := by rw [Lib.toList_data, bytes_nil]; exact h0
                have e1 : word.toList.isEmpty = false := by cases h : word.toList with
                  | nil => exact absurd h e0
                  | cons => rfl
                have HN := Lib.hid (HI.out.blank hlt hb h35 hp)
                clear h0 hp HI h35 hb
                go_wp2_with (at_builtin; refine wpList_append_str rfl _ _ rfl w.heap.size _ ws rfl HO.out rfl (by omega) HWz ?_; intro v2 w2 ho2 hb2; obtain ⟨A2, C2, rfl⟩ := ho2.slice; rw [List.length_append] at ho2; have HO2 : Hid (OwnStrs w.heap.size w2 (.slice A2 (ws.length + 1) C2) (ws ++ [word])) := Lib.hid ho2; have HW2 := Lib.hid (HW.out.trans hb2); clear ho2 hb2)
                refine ⟨⟨k + 1, _, _, _, by go_num, rfl, rfl, by omega, HO2, HW2, .inl ⟨by omega, HN⟩⟩, ?_⟩
                simp [intOf]
                try omega
            · have h9 : s[k] = 9 := by
                unfold isBlank at hb
                simp only [Bool.or_eq_true, beq_iff_eq] at hb
                exact hb.resolve_left h32
              have b32 : ((s[k].toNat : Int) == 32) = false := beq_eq_false_iff_ne.2 (fun e => h32 (UInt8.toNat_inj.1 (by show s[k].toNat = 32; omega)))
              have b9 : ((s[k].toNat : Int) == 9) = true := by rw [h9]; rfl
              clear h32 h9
              by_cases h0 : word.size = 0
              · have e0 : word.toList = [] := by rw [Lib.toList_data]; exact (bytes_nil word).2 h0
                have e1 : word.toList.isEmpty = true := by rw [e0]; rfl
                have HN := Lib.hid (HI.out.blank0 hlt hb h35 h0)
                clear h0 HI h35 hb
                go_wp2
                refine ⟨⟨k + 1, _, _, _, by go_num, rfl, rfl, by omega, HO, HW, .inl ⟨by omega, HN⟩⟩, ?_⟩
                simp [intOf]
                try omega
              · have hp : 0 < word.size := by omega
                have e0 : ¬ word.toList = [] := by rw [Lib.toList_data, bytes_nil]; exact h0
                have e1 : word.toList.isEmpty = false := by cases h : word.toList with
                  | nil => exact absurd h e0
                  | cons => rfl
                have HN := Lib.hid (HI.out.blank hlt hb h35 hp)
                clear h0 hp HI h35 hb
                go_wp2_with (at_builtin; refine wpList_append_str rfl _ _ rfl w.heap.size _ ws rfl HO.out rfl (by omega) HWz ?_; intro v2 w2 ho2 hb2; obtain ⟨A2, C2, rfl⟩ := ho2.slice; rw [List.length_append] at ho2; have HO2 : Hid (OwnStrs w.heap.size w2 (.slice A2 (ws.length + 1) C2) (ws ++ [word])) := Lib.hid ho2; have HW2 := Lib.hid (HW.out.trans hb2); clear ho2 hb2)
                refine ⟨⟨k + 1, _, _, _, by go_num, rfl, rfl, by omega, HO2, HW2, .inl ⟨by omega, HN⟩⟩, ?_⟩
                simp [intOf]
                try omega
          · have hb' : isBlank s[k] = false := by simpa using hb
            have hb2 : s[k] ≠ 32 ∧ s[k] ≠ 9 := by
              unfold isBlank at hb'
              simpa using hb'
            have h32 := hb2.1
            have h9 := hb2.2
            have b32 : ((s[k].toNat : Int) == 32) = false := beq_eq_false_iff_ne.2 (fun e => h32 (UInt8.toNat_inj.1 (by show s[k].toNat = 32; omega)))
            have b9 : ((s[k].toNat : Int) == 9) = false := beq_eq_false_iff_ne.2 (fun e => h9 (UInt8.toNat_inj.1 (by show s[k].toNat = 9; omega)))
            have HN := Lib.hid (HI.out.char hlt hb' h35)
            have hws : word.size ≤ 1048576 := by have := HI.out.2.2.1; omega
            clear HI h35 hb hb' hb2 h32 h9
            go_wp2
            refine ⟨⟨k + 1, _, _, _, by go_num, rfl, rfl, by omega, HO, HW, .inl ⟨by omega, HN⟩⟩, ?_⟩
            simp [intOf]
            try omega
    · have hgt : (s.size : Int) < (k : Int) := by omega
      go_wp2
      go_ret
      exact ⟨⟨_, ws, rfl, HO.out, HD.out⟩, HW.out⟩
end Go.Proofs.YtikpkjpnehkbfaaGreatDoor.Rf
