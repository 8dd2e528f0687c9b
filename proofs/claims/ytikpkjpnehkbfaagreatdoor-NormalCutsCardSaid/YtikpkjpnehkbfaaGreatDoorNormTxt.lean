/- points.Text: the walk. -/
import Derived.Test.YtikpkjpnehkbfaaGreatDoorNormOf
import Derived.Lib.AppendStr
namespace Go.Proofs.YtikpkjpnehkbfaaGreatDoor.Nw
open Go Go.RowKit Go.Shelf Go.Proofs.YtikpkjpnehkbfaaGreatDoor.Sp Go.Proofs.YtikpkjpnehkbfaaGreatDoor.Pr Go.Proofs.YtikpkjpnehkbfaaGreatDoor.Rf Go.Proofs.YtikpkjpnehkbfaaGreatDoor.Nm Go.Proofs.YtikpkjpnehkbfaaGreatDoor.Sb Go.Proofs.YtikpkjpnehkbfaaGreatDoor.Ut
set_option linter.unusedSimpArgs false
set_option linter.unusedVariables false

theorem infoU8 : (Tryz.prog.info? 5).map (fun i => (i.zero, i.size, i.bytes)) = some (some (.int .u8 0), 1, 1) := by kernel_rfl
/-- Bytes as cells. -/
def cellsB (l : Bytes) : List Value := l.map fun b => Value.int .u8 b.toNat
theorem cellsB_len (l : Bytes) : (cellsB l).length = l.length := List.length_map _
theorem cellsB_app (l m : Bytes) : cellsB (l ++ m) = cellsB l ++ cellsB m := List.map_append ..
/-- A row of bytes of a call's own. -/
def OwnB (n₀ : Nat) (W : World) (v : Value) (l : Bytes) : Prop := W.ownsRow n₀ 5 1 v l.length (cellsB l)
theorem OwnB.nil (n₀ : Nat) (W : World) : OwnB n₀ W (.slice none 0 0) [] := ⟨rfl, .inl ⟨rfl, rfl⟩⟩
/-- A byte more. -/
theorem wpList_append_byte {ops : Array Oper} {rest : List Oper} {o : Oper} {ac : Act} {Q : Exit → Act → World → Prop} {W : World} {y : Int} {b : UInt8} (hy : y = (b.toNat : Int)) (hgd : o.guard = none) (s x : Operand)
    (ho : o.op = .call { callee := .builtin .append, args := #[s, x], argTypes := #[119, 119] })
    (base : Nat) (v : Value) (L : Bytes) (hs : ac.eval s = v) (hown : OwnB base W v L) (hx : ac.eval x = .slice (some ⟨W.heap.size, 0, none⟩) 1 1)
    (h63 : L.length ≤ 1073741824) (hbase : base ≤ W.heap.size)
    (h : ∀ v' w', OwnB base w' v' (L ++ [b]) → Below base W w' → wpList Tryz.prog ops Q rest (ac.put o.dst v') w') : wpList Tryz.prog ops Q (o :: rest) ac (W.alloc (.cells #[.int .u8 y] 5)) := by
  subst hy
  obtain ⟨i, hi, hz0, hz1, hz2⟩ := info_parts infoU8
  refine wpList_append_own_at (W.alloc (.cells #[.int .u8 (b.toNat : Int)] 5)) hgd s x 119 ho base 5 i (.int .u8 0) 1 1 Tryz.underlying119 hi hz0 hz1 hz2 rfl (by decide) v L.length (cellsB L) hs (World.ownsRow.alloc hown _) ⟨W.heap.size, 0, none⟩ 1 1 (cellsB [b]) hx (by simp [cellsB]) (cells_laid W (cellsB [b]) rfl (by simp [cellsB, maxLen])) (by intro u hu; simp [cellsB] at hu; subst hu; rfl) (by simp only [maxLen]; omega) (by omega) (by rw [World.size_alloc]; omega) ?_
  intro v' w' ho' hg _ _
  refine h v' w' ?_ (((Below.refl _ W).alloc hbase _).grown hg (by rw [World.size_alloc]; omega) (fun k e => ((World.ownsRow.lt hown) k e).1))
  unfold OwnB
  rw [cellsB_app, List.length_append]
  exact ho'
/-- A string more. -/
theorem wpList_append_str {ops : Array Oper} {rest : List Oper} {o : Oper} {ac : Act} {Q : Exit → Act → World → Prop} {W : World} (hgd : o.guard = none) (sl x : Operand)
    (ho : o.op = .call { callee := .builtin .append, args := #[sl, x], argTypes := #[119, 9] })
    (base : Nat) (v : Value) (L : Bytes) (hs : ac.eval sl = v) (hown : OwnB base W v L) (s : ByteArray) (hx : ac.eval x = .string s)
    (h63 : L.length + s.size ≤ 1073741824) (hbase : base ≤ W.heap.size)
    (h : ∀ v' w', OwnB base w' v' (L ++ s.data.toList) → Below base W w' → wpList Tryz.prog ops Q rest (ac.put o.dst v') w') : wpList Tryz.prog ops Q (o :: rest) ac W := by
  obtain ⟨i, hi, hz0, hz1, hz2⟩ := info_parts infoU8
  refine Lib.wpList_append_own_string W hgd sl x 119 9 ho base 5 i Tryz.underlying119 Tryz.underlying9 hi hz0 hz1 hz2 v L.length (cellsB L) hs hown s hx (by simp only [maxLen]; omega) (by omega) hbase ?_
  intro v' w' ho' hg _
  refine h v' w' ?_ ((Below.refl _ W).grown hg hbase (fun k e => ((World.ownsRow.lt hown) k e).1))
  unfold OwnB
  rw [cellsB_app, List.length_append, ← Lib.size_eq]
  exact ho'
/-- string(b). -/
theorem bytes_conv {n₀ : Nat} {W : World} {v : Value} {L : Bytes} (h : OwnB n₀ W v L) : (convert 119 9 v).run Tryz.prog W = .ok (.string ⟨L.toArray⟩) W := by
  rcases h.2 with ⟨rfl, h0⟩ | ⟨g, cap, cur, rfl, _⟩
  · obtain rfl : L = [] := List.length_eq_zero_iff.1 h0
    rw [run_convert_bytes_string W 119 9 5 none 0 0 Tryz.underlying119 Tryz.underlying5 Tryz.underlying9]
    rfl
  · refine run_convert_bytes_back W 119 9 5 ⟨g, 0, none⟩ cap L Tryz.underlying119 Tryz.underlying5 Tryz.underlying9 (fun j hj => ?_)
    exact World.ownsRow.cells h (g := g) rfl j _ (by unfold cellsB; rw [List.getElem?_map, List.getElem?_eq_getElem hj]; rfl)
theorem text_take {l : List Int} {i : Nat} {x : Int} (hx : l[i]? = some x) : textOf (l.take (i + 1)) = textOf (l.take i) ++ encP x := by
  unfold textOf
  rw [List.take_add_one, hx, List.flatMap_append]
  simp
theorem text_take_le (l : List Int) (i : Nat) : (textOf (l.take i)).length ≤ 4 * l.length := Nat.le_trans (text_length _).2 (Nat.mul_le_mul_left 4 (by rw [List.length_take]; exact Nat.min_le_right _ _))
theorem enc_str {r : Int} (h : isChar r = true) : (Utf8.encode r).data.toList = encP r ∧ (Utf8.encode r).size ≤ 4 := by
  have h1 := char_iff.1 h
  have e : encP r = Lib.encodeRune r := by unfold encP; rw [if_neg (by omega)]
  refine ⟨by rw [e]; exact encode_rune r h, ?_⟩
  rw [Lib.size_eq, encode_rune r h, ← e]
  exact (encP_len r).2
set_option maxHeartbeats 4000000 in
set_option maxRecDepth 100000 in
theorem text_calls {lv : Value} {l : List Int} {w : World} (hr : ReadPts w lv l) (hok : ∀ x ∈ l, okP x) (hl : l.length ≤ 16777216) :
    Calls Tryz.prog 77 #[lv] w fun e w' => e = .returned (.tuple #[.string ⟨(textOf l).toArray⟩, .nilIface]) ∧ Below w.heap.size w w' := by
  obtain ⟨A, c, rfl, hc⟩ := read_addr hr
  have HC := Lib.hid hc
  obtain ⟨n, hn⟩ : ∃ n, l.length = n := ⟨_, rfl⟩
  have HN := Lib.hid hn
  have HTL : Hid (∀ i, (textOf (l.take i)).length ≤ 67108864) := Lib.hid (fun i => Nat.le_trans (text_take_le l i) (by omega))
  have HOK := Lib.hid hok
  have HT := Lib.hid (fun (i : Nat) (x : Int) (hx : l[i]? = some x) => text_take hx)
  rw [hn] at hl ⊢
  clear hc hr hn hok
  go_enter Tryz.func77, Tryz.ntmps77
  go_wp2
  go_loopg [4, 9] n (fun gk vb vi wr => ∃ (i : Nat), vi = .int .i64 i ∧ i ≤ n ∧ n - i ≤ gk ∧ Hid (OwnB w.heap.size wr vb (textOf (l.take i)) ∧ Below w.heap.size w wr))
  case atStart => exact ⟨0, rfl, Nat.zero_le _, by omega, Lib.hid ⟨OwnB.nil _ _, Below.refl _ _⟩⟩
  case round =>
    obtain ⟨i, rfl, hi, hg1, HI⟩ := hrel
    by_cases hlt : i < n
    · have hz : (i : Int) < (n : Int) := by omega
      obtain ⟨x, hx⟩ : ∃ x, l[i]? = some x := ⟨_, List.getElem?_eq_getElem (by rw [HN.out]; exact hlt)⟩
      obtain ⟨b, off, rfl, cx0⟩ := HC.out i x hx
      have cx := Sb.later_cell HI.out.2 cx0
      have HTT := Lib.hid (HT.out i x hx)
      have hxo := HOK.out x (List.mem_of_getElem? hx)
      have HVR := Lib.hid (fun (W : World) => Tryz.utf8_ValidRune x W)
      have HLN := Lib.hid (HTL.out i)
      clear cx0
      by_cases hch : isChar x = true
      · have HES := Lib.hid (enc_str hch)
        rw [valid_char, hch] at HVR
        clear hx hxo hch
        go_wp2_with (first
          | (go_at_call 119; (with_reducible refine (HVR.out _).mono ?_); rintro e w2 ⟨rfl, rfl⟩)
          | (at_builtin; refine wpList_append_str rfl _ _ rfl w.heap.size _ (textOf (l.take i)) rfl HI.out.1 (Utf8.encode x) rfl (by have := HLN.out; have := HES.out.2; omega) HI.out.2.size ?_; intro v3 w3 ho3 hb3; rw [HES.out.1, ← HTT.out] at ho3; have HO3 := Lib.hid ho3; have HB3 := Lib.hid (HI.out.2.trans hb3); clear ho3 hb3))
        go_roundg (n - (i + 1))
        case rel => exact ⟨i + 1, by go_num, by omega, by omega, Lib.hid ⟨HO3.out, HB3.out⟩⟩
        case measure => omega
      · have hch' : isChar x = false := by simpa using hch
        have hr1 : 1114240 ≤ x ∧ x ≤ 1114367 := hxo.resolve_left hch
        obtain ⟨q0, q1⟩ := hr1
        have HEB : Hid (encP x = [(x - 1114112).toNat.toUInt8] ∧ x - 1114112 = (((x - 1114112).toNat.toUInt8).toNat : Int)) := Lib.hid ⟨by unfold encP; rw [if_pos (by omega)], (byteN (by omega) (by omega)).symm⟩
        rw [valid_char, hch'] at HVR
        have e1 : IntKind.i32.wrap (x - 1114112) = x - 1114112 := IntWalk.i32_in _ (by omega)
        have e2 : IntKind.u8.wrap (x - 1114112) = x - 1114112 := IntWalk.u8_in _ (by omega)
        clear hx hxo hch hch'
        go_wp2_with (first
          | (go_at_call 119; (with_reducible refine (HVR.out _).mono ?_); rintro e w2 ⟨rfl, rfl⟩)
          | (at_builtin; refine wpList_append_byte HEB.out.2 rfl _ _ rfl w.heap.size _ (textOf (l.take i)) rfl HI.out.1 rfl (Nat.le_trans HLN.out (by decide)) HI.out.2.size ?_; intro v3 w3 ho3 hb3; rw [← HEB.out.1, ← HTT.out] at ho3; have HO3 := Lib.hid ho3; have HB3 := Lib.hid (HI.out.2.trans hb3); clear ho3 hb3))
        go_roundg (n - (i + 1))
        case rel => exact ⟨i + 1, by go_num, by omega, by omega, Lib.hid ⟨HO3.out, HB3.out⟩⟩
        case measure => omega
    · have hin : i = l.length := by rw [HN.out]; omega
      have HO : Hid (OwnB w.heap.size wr u4 (textOf l)) := Lib.hid (by have := HI.out.1; rw [hin, List.take_of_length_le (Nat.le_refl _)] at this; exact this)
      have hz : ¬ (i : Int) < (n : Int) := by omega
      have hcv := bytes_conv HO.out
      clear hin hlt
      go_wp2
      go_ret2
      exact ⟨rfl, HI.out.2⟩
end Go.Proofs.YtikpkjpnehkbfaaGreatDoor.Nw
