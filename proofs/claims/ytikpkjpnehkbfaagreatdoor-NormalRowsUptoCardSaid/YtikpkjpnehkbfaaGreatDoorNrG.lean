/- points.Of: the walk; points.Text: the walk; normal.Text, Is: the walks. -/
import Derived.Test.YtikpkjpnehkbfaaGreatDoorNrF
import Derived.Test.YtikpkjpnehkbfaaGreatDoorNrD
import Derived.Laws.RangeAny
import Derived.Lib.OthersKept
import Derived.Lib.AppendStr
set_option linter.unusedSimpArgs false
set_option linter.unusedVariables false
namespace Go.Proofs.YtikpkjpnehkbfaaGreatDoor.Nw
open Go Go.RowKit Go.Shelf Go.Proofs.YtikpkjpnehkbfaaGreatDoor.Sp Go.Proofs.YtikpkjpnehkbfaaGreatDoor.Pr Go.Proofs.YtikpkjpnehkbfaaGreatDoor.Rf Go.Proofs.YtikpkjpnehkbfaaGreatDoor.Nm Go.Proofs.YtikpkjpnehkbfaaGreatDoor.Sb Go.Proofs.YtikpkjpnehkbfaaGreatDoor.Ut
theorem enc_raw (l : List Int) : l.map (Value.int .i32) = enc l := rfl
theorem runes_conv (s : ByteArray) (hs : s.size ≤ 1073741824) (w : World) : ∃ n cap W1, (convert 9 22 (.string s)).run Tryz.prog w = .ok (.slice (some ⟨w.heap.size, 0, none⟩) n cap) W1 ∧ n = (rawOf s.data.toList).length ∧ OwnPts w.heap.size W1 (.slice (some ⟨w.heap.size, 0, none⟩) n cap) (rawOf s.data.toList) ∧ Below w.heap.size w W1 ∧ W1.heap.size = w.heap.size + 1 := by
  have hz : (Conv.runesFrom s s.size 0 #[]).size = (rawOf s.data.toList).length := by rw [← Array.length_toList, runes_raw, List.length_map]
  have hle : (Conv.runesFrom s s.size 0 #[]).size ≤ s.size := by rw [runes_size, Lib.size_eq]; exact ptsL_len _
  have e := run_runes_of_string (P := Tryz.prog) w 9 22 21 s Tryz.underlying9 Tryz.underlying22 Tryz.underlying21 (by omega)
  have h1 := grownCap_ge w (Conv.runesFrom s s.size 0 #[]).size 0 21
  have h2 := grownCap_le_maxLen w (Conv.runesFrom s s.size 0 #[]).size 0 21 (by simp only [maxLen]; omega)
  refine ⟨_, _, _, e, hz, ?_, ((Below.refl _ w).drew).alloc (Nat.le_refl _) _, by rw [World.size_alloc]; rfl⟩
  unfold OwnPts World.ownsRow
  rw [← hz]
  refine ⟨by rw [enc_length, Nat.mul_one, hz], .inr ⟨w.heap.size, _, _, rfl, Nat.le_refl _, World.alloc_heap_new w.drew _, h1, h2, ?_, ?_⟩⟩
  · rw [Array.size_append, Array.size_replicate]; omega
  · rw [Array.toList_append, runes_raw, Nat.mul_one, hz, enc_raw, ← enc_length (rawOf s.data.toList)]
    exact List.take_left ..
theorem own_block_iter {n₀ K pos : Nat} {W : World} {v : Value} {l : List Int} (h : OwnPts n₀ W v l) (s : ByteArray) (hv : ∀ g, v.ownBlock = some g → g < K) : OwnPts n₀ (W.iterAt K s pos) v l :=
  Rowl.own_below h (Lib.below_iterAt (Below.refl K W) (Nat.le_refl K) s pos) hv
set_option maxHeartbeats 4000000 in
set_option maxRecDepth 100000 in
theorem of_calls (s : ByteArray) (hs : s.size ≤ 1073741824) (w : World) : Calls Tryz.prog 37 #[.string s] w fun e w' => ∃ v, e = .returned v ∧ OwnPts w.heap.size w' v (ptsOf s.data.toList) ∧ Below w.heap.size w w' := by
  obtain ⟨n, cap, W1, hcv, hn, ho1, hb1, hz1⟩ := runes_conv s hs w
  have hnl : n ≤ s.size := by rw [hn, raw_len _ _ (Nat.le_refl _), Lib.size_eq]; exact ptsL_len _
  have HN := Lib.hid hn
  have HO1 := Lib.hid ho1
  have HB1 := Lib.hid hb1
  have HZ1 := Lib.hid hz1
  clear hn ho1 hb1 hz1
  go_enter Tryz.func37, Tryz.ntmps37
  go_wp2
  go_loopg [4] s.size (fun gk vk wr => ∃ (pos k : Nat) (P : List Int), vk = .int .i64 k ∧ pos ≤ s.size ∧ s.size ≤ pos + gk ∧ k ≤ pos ∧ Hid (P.length = k ∧ ptsOf s.data.toList = P ++ ptsOf (s.data.toList.drop pos) ∧ wr.heap[W1.heap.size]? = some (.stringIter s pos) ∧ OwnPts w.heap.size wr (.slice (some ⟨w.heap.size, 0, none⟩) n cap) (P ++ rawOf (s.data.toList.drop pos)) ∧ Below w.heap.size w wr))
  case atStart => exact ⟨0, 0, [], rfl, Nat.zero_le _, by omega, Nat.le_refl _, Lib.hid ⟨rfl, rfl, World.iter_heap W1 s 0, Rowl.own_later HO1.out ((Below.refl _ W1).alloc (Nat.le_refl _) _), (HB1.out).alloc HB1.out.size _⟩⟩
  case round =>
    obtain ⟨pos, k, P, rfl, hp, hfu, hkp, HI⟩ := hrel
    obtain ⟨hP, hpt, hit, hown, hbw⟩ := HI.out
    by_cases hlt : pos < s.size
    · obtain ⟨g', rfl⟩ : ∃ g', gk = g' + 1 := ⟨gk - 1, by omega⟩
      have hll : pos < s.data.toList.length := by rw [← Lib.size_eq]; exact hlt
      have hnx : ∀ ty, (Instr.next (.pointer (some ⟨W1.heap.size, 0, none⟩)) true ty).run Tryz.prog wr = _ := fun ty => Lib.run_next_any_at wr W1.heap.size s pos ty hit hlt
      have hwl := wid_le hll
      rw [← Lib.size_eq] at hwl
      have hwp := wid_pos s.data.toList pos
      obtain ⟨st1, st2⟩ := step_at hll
      rw [decode_widN, decode_runN] at hnx
      have HPX := Lib.hid (fun (W : World) => Tryz.strings_HasPrefix (s.extract pos s.size) ⟨#[239, 191, 189]⟩ W)
      have hex : (s.extract pos s.size).data.toList = s.data.toList.drop pos := by
        rw [Lib.extract_data, List.take_of_length_le (by rw [List.length_drop, ← Lib.size_eq]; exact Nat.le_refl _)]
      rw [hex] at HPX
      have hgb : s.data.toList.getD pos 0 = s[pos]'hlt := by rw [← Lib.getD_at s pos hlt]
      have hpn : (rawOf (s.data.toList.drop pos)).length + k = n := by
        have e1 := congrArg List.length hpt
        have e2 := raw_len _ _ (Nat.le_refl s.data.toList.length)
        have e3 := raw_len _ _ (Nat.le_refl (s.data.toList.drop pos).length)
        rw [List.length_append, hP] at e1
        rw [HN.out, e2, e1, e3]; omega
      rw [st2] at hpn hown
      rw [st1] at hpt
      rw [List.length_cons] at hpn
      have hkn : k < n := by omega
      obtain ⟨r, hr⟩ : ∃ r : Nat, run s.data.toList pos = r := ⟨_, rfl⟩
      rw [hr] at hnx hown
      have hp2 : pos + wid s.data.toList pos ≤ s.size := hwl
      have hfu2 : s.size ≤ pos + wid s.data.toList pos + g' := by omega
      have hk2 : k + 1 ≤ pos + wid s.data.toList pos := by omega
      have hgl : ∀ g, (Value.slice (some ⟨w.heap.size, 0, none⟩) n cap).ownBlock = some g → g < W1.heap.size := by
        intro g h
        obtain rfl : w.heap.size = g := by simpa [Value.ownBlock] using h
        rw [HZ1.out]
        exact Nat.lt_succ_self _
      have HOI := Lib.hid (own_block_iter (pos := pos + wid s.data.toList pos) hown s hgl : OwnPts w.heap.size (wr.iterAt W1.heap.size s (pos + wid s.data.toList pos)) _ _)
      have HIT := Lib.hid (Lib.iterAt_heap wr W1.heap.size s pos (pos + wid s.data.toList pos) hit)
      have HBI := Lib.hid (Lib.below_iterAt hbw (k := W1.heap.size) (by rw [HZ1.out]; omega) s (pos + wid s.data.toList pos))
      have HPL := Lib.hid hP
      have HPT := Lib.hid hpt
      have HPE : Hid (r ≠ 65533 → ptL (s.data.toList.drop pos) = (r : Int)) := Lib.hid (fun h => by rw [← hr] at h ⊢; exact pt_plain h)
      have HPF : Hid (r = 65533 → ptL (s.data.toList.drop pos) = if Lib.hasPrefix (s.data.toList.drop pos) [239, 191, 189] = true then 65533 else 1114112 + ((s[pos]'hlt).toNat : Int)) := Lib.hid (fun h => by rw [← hr] at h; rw [pt_fffd hll h, hgb])
      clear hgl hex hgb hpt hit hown hbw st1 st2 hwl hwp hll hp hr
      generalize ptL (s.data.toList.drop pos) = pt at *
      generalize wid s.data.toList pos = wd at *
      obtain ⟨W, hWd⟩ : ∃ W, wr.iterAt W1.heap.size s (pos + wd) = W := ⟨_, rfl⟩
      rw [hWd] at hnx HOI HIT HBI
      clear hWd
      by_cases h1 : r = 65533
      · subst h1
        have HP3 := Lib.hid (HPF.out rfl)
        obtain ⟨b, hb⟩ : ∃ b, Lib.hasPrefix (s.data.toList.drop pos) [239, 191, 189] = b := ⟨_, rfl⟩
        rw [show (⟨#[239, 191, 189]⟩ : ByteArray).data.toList = [239, 191, 189] from rfl, hb] at HPX
        rw [hb] at HP3
        clear hb HPE HPF
        cases b
        · have HSET := Lib.hid (own_set HOI.out (by rw [List.length_append, List.length_cons, HPL.out]; omega) hkn (1114112 + ((s[pos]'hlt).toNat : Int)))
          have hcl := own_cells (i := k) (x := ((65533 : Nat) : Int)) HOI.out (by rw [List.getElem?_append_right (by omega), HPL.out, Nat.sub_self]; rfl)
          have hfz := HSET.out.2.2
          have hby : (s[pos]'hlt).toNat < 256 := (s[pos]'hlt).toNat_lt
          have e1 : IntKind.i32.wrap (1114112 + ((s[pos]'hlt).toNat : Int)) = 1114112 + ((s[pos]'hlt).toNat : Int) := IntWalk.i32_in _ (by omega)
          have hkz : (k : Int) < (n : Int) := by omega
          go_wp2_with (go_at_call 78; (with_reducible refine (HPX.out _).mono ?_); rintro e w2 ⟨rfl, rfl⟩)
          go_roundg g'
          case rel => exact ⟨pos + wd, k + 1, P ++ [pt], by go_num, by omega, by omega, by omega, Lib.hid ⟨by rw [List.length_append, HPL.out]; rfl, by rw [List.append_assoc]; exact HPT.out, (heap_setCell_other _ _ _ _ (show W1.heap.size ≠ w.heap.size by rw [HZ1.out]; omega)).trans HIT.out, by
            have h := HSET.out.1
            rw [← HPL.out, set_mid] at h
            rw [List.append_assoc, HP3.out]
            rw [← HPL.out]
            exact h, HBI.out.trans (HSET.out.2.1.below HBI.out.size (fun g h => by obtain rfl : w.heap.size = g := by simpa [Value.ownBlock] using h
                                                                                   exact Nat.le_refl _))⟩⟩
          case measure => omega
        · go_wp2_with (go_at_call 78; (with_reducible refine (HPX.out _).mono ?_); rintro e w2 ⟨rfl, rfl⟩)
          go_roundg g'
          case rel => exact ⟨pos + wd, k + 1, P ++ [pt], by go_num, by omega, by omega, by omega, Lib.hid ⟨by rw [List.length_append, HPL.out]; rfl, by rw [List.append_assoc]; exact HPT.out, HIT.out, by rw [List.append_assoc, HP3.out]; exact HOI.out, HBI.out⟩⟩
          case measure => omega
      · have HP3 := Lib.hid (HPE.out h1)
        have hrb : ((r : Int) == 65533) = false := beq_eq_false_iff_ne.2 (by omega)
        clear HPE HPF h1
        go_wp2
        go_roundg g'
        case rel => exact ⟨pos + wd, k + 1, P ++ [pt], by go_num, by omega, by omega, by omega, Lib.hid ⟨by rw [List.length_append, HPL.out]; rfl, by rw [List.append_assoc]; exact HPT.out, HIT.out, by rw [List.append_assoc, HP3.out]; exact HOI.out, HBI.out⟩⟩
        case measure => omega
    · have hnx : ∀ ty, (Instr.next (.pointer (some ⟨W1.heap.size, 0, none⟩)) true ty).run Tryz.prog wr = _ := fun ty => Lib.run_next_end_at wr W1.heap.size s pos ty hit hlt
      have HE : Hid (OwnPts w.heap.size wr (.slice (some ⟨w.heap.size, 0, none⟩) n cap) (ptsOf s.data.toList)) := Lib.hid (by
        have e : s.data.toList.drop pos = [] := List.drop_eq_nil_of_le (by rw [← Lib.size_eq]; omega)
        rw [hpt, e, pts_nil]
        rw [e, raw_nil] at hown
        exact hown)
      clear hpt hit hown hlt
      go_wp2
      go_ret
      exact ⟨_, rfl, HE.out, HI.out.2.2.2.2⟩
end Go.Proofs.YtikpkjpnehkbfaaGreatDoor.Nw
namespace Go.Proofs.YtikpkjpnehkbfaaGreatDoor.Nw
open Go Go.RowKit Go.Shelf Go.Proofs.YtikpkjpnehkbfaaGreatDoor.Sp Go.Proofs.YtikpkjpnehkbfaaGreatDoor.Pr Go.Proofs.YtikpkjpnehkbfaaGreatDoor.Rf Go.Proofs.YtikpkjpnehkbfaaGreatDoor.Nm Go.Proofs.YtikpkjpnehkbfaaGreatDoor.Sb Go.Proofs.YtikpkjpnehkbfaaGreatDoor.Ut
theorem infoU8 : (Tryz.prog.info? 5).map (fun i => (i.zero, i.size, i.bytes)) = some (some (.int .u8 0), 1, 1) := by kernel_rfl
def cellsB (l : Bytes) : List Value := l.map fun b => Value.int .u8 b.toNat
theorem cellsB_app (l m : Bytes) : cellsB (l ++ m) = cellsB l ++ cellsB m := List.map_append ..
def OwnB (n₀ : Nat) (W : World) (v : Value) (l : Bytes) : Prop := W.ownsRow n₀ 5 1 v l.length (cellsB l)
theorem OwnB.nil (n₀ : Nat) (W : World) : OwnB n₀ W (.slice none 0 0) [] := ⟨rfl, .inl ⟨rfl, rfl⟩⟩
theorem wpList_append_byte {ops : Array Oper} {rest : List Oper} {o : Oper} {ac : Act} {Q : Exit → Act → World → Prop} {W : World} {y : Int} {b : UInt8} (hy : y = (b.toNat : Int)) (hgd : o.guard = none) (s x : Operand)
    (ho : o.op = .call { callee := .builtin .append, args := #[s, x], argTypes := #[119, 119] })
    (base : Nat) (v : Value) (L : Bytes) (hs : ac.eval s = v) (hown : OwnB base W v L) (hx : ac.eval x = .slice (some ⟨W.heap.size, 0, none⟩) 1 1)
    (h63 : L.length ≤ 1073741824) (hbase : base ≤ W.heap.size)
    (h : ∀ v' w', OwnB base w' v' (L ++ [b]) → Below base W w' → wpList Tryz.prog ops Q rest (ac.put o.dst v') w') : wpList Tryz.prog ops Q (o :: rest) ac (W.alloc (.cells #[.int .u8 y] 5)) := by
  subst hy
  obtain ⟨i, hi, hz0, hz1, hz2⟩ := info_parts infoU8
  refine wpList_append_own_at (W.alloc (.cells #[.int .u8 (b.toNat : Int)] 5)) hgd s x 119 ho base 5 i (.int .u8 0) 1 1 Tryz.underlying119 hi hz0 hz1 hz2 rfl (by decide) v L.length (cellsB L) hs (World.ownsRow.alloc hown _) ⟨W.heap.size, 0, none⟩ 1 1 (cellsB [b]) hx (by simp [cellsB]) (cells_laid W (cellsB [b]) rfl (by simp [cellsB, maxLen])) (by intro u hu; simp [cellsB] at hu; subst hu; rfl) (by simp only [maxLen]; omega) (by omega) (by rw [World.size_alloc]; omega) ?_
  intro v' w' ho' hg _ _
  refine h v' w' ?_ (((Below.refl _ W).alloc hbase _).grown hg (by rw [World.size_alloc]; omega) (fun k e => ((World.ownsRow.lt hown) k e).1))
  unfold OwnB
  rw [cellsB_app, List.length_append]
  exact ho'
theorem wpList_append_str {ops : Array Oper} {rest : List Oper} {o : Oper} {ac : Act} {Q : Exit → Act → World → Prop} {W : World} (hgd : o.guard = none) (sl x : Operand)
    (ho : o.op = .call { callee := .builtin .append, args := #[sl, x], argTypes := #[119, 9] })
    (base : Nat) (v : Value) (L : Bytes) (hs : ac.eval sl = v) (hown : OwnB base W v L) (s : ByteArray) (hx : ac.eval x = .string s)
    (h63 : L.length + s.size ≤ 1073741824) (hbase : base ≤ W.heap.size)
    (h : ∀ v' w', OwnB base w' v' (L ++ s.data.toList) → Below base W w' → wpList Tryz.prog ops Q rest (ac.put o.dst v') w') : wpList Tryz.prog ops Q (o :: rest) ac W := by
  obtain ⟨i, hi, hz0, hz1, hz2⟩ := info_parts infoU8
  refine Lib.wpList_append_own_string W hgd sl x 119 9 ho base 5 i Tryz.underlying119 Tryz.underlying9 hi hz0 hz1 hz2 v L.length (cellsB L) hs hown s hx (by simp only [maxLen]; omega) (by omega) hbase ?_
  intro v' w' ho' hg _
  refine h v' w' ?_ ((Below.refl _ W).grown hg hbase (fun k e => ((World.ownsRow.lt hown) k e).1))
  unfold OwnB
  rw [cellsB_app, List.length_append, ← Lib.size_eq]
  exact ho'
theorem bytes_conv {n₀ : Nat} {W : World} {v : Value} {L : Bytes} (h : OwnB n₀ W v L) : (convert 119 9 v).run Tryz.prog W = .ok (.string ⟨L.toArray⟩) W := by
  rcases h.2 with ⟨rfl, h0⟩ | ⟨g, cap, cur, rfl, _⟩
  · obtain rfl : L = [] := List.length_eq_zero_iff.1 h0
    rw [run_convert_bytes_string W 119 9 5 none 0 0 Tryz.underlying119 Tryz.underlying5 Tryz.underlying9]
    rfl
  · refine run_convert_bytes_back W 119 9 5 ⟨g, 0, none⟩ cap L Tryz.underlying119 Tryz.underlying5 Tryz.underlying9 (fun j hj => ?_)
    exact World.ownsRow.cells h (g := g) rfl j _ (by unfold cellsB; rw [List.getElem?_map, List.getElem?_eq_getElem hj]; rfl)
theorem text_take {l : List Int} {i : Nat} {x : Int} (hx : l[i]? = some x) : textOf (l.take (i + 1)) = textOf (l.take i) ++ encP x := by
  unfold textOf
  rw [List.take_add_one, hx, List.flatMap_append]
  simp
theorem text_take_le (l : List Int) (i : Nat) : (textOf (l.take i)).length ≤ 4 * l.length := Nat.le_trans (text_length _).2 (Nat.mul_le_mul_left 4 (by rw [List.length_take]; exact Nat.min_le_right _ _))
theorem enc_str {r : Int} (h : isChar r = true) : (Utf8.encode r).data.toList = encP r ∧ (Utf8.encode r).size ≤ 4 := by
  have h1 := char_iff.1 h
  have e : encP r = Lib.encodeRune r := by unfold encP; rw [if_neg (by omega)]
  refine ⟨by rw [e]; exact encode_rune r h, ?_⟩
  rw [Lib.size_eq, encode_rune r h, ← e]
  exact (encP_len r).2
set_option maxHeartbeats 4000000 in
set_option maxRecDepth 100000 in
theorem text_calls {lv : Value} {l : List Int} {w : World} (hr : ReadPts w lv l) (hok : ∀ x ∈ l, okP x) (hl : l.length ≤ 16777216) :
    Calls Tryz.prog 77 #[lv] w fun e w' => e = .returned (.tuple #[.string ⟨(textOf l).toArray⟩, .nilIface]) ∧ Below w.heap.size w w' := by
  obtain ⟨A, c, rfl, hc⟩ := read_addr hr
  have HC := Lib.hid hc
  obtain ⟨n, hn⟩ : ∃ n, l.length = n := ⟨_, rfl⟩
  have HN := Lib.hid hn
  have HTL : Hid (∀ i, (textOf (l.take i)).length ≤ 67108864) := Lib.hid (fun i => Nat.le_trans (text_take_le l i) (by omega))
  have HOK := Lib.hid hok
  have HT := Lib.hid (fun (i : Nat) (x : Int) (hx : l[i]? = some x) => text_take hx)
  rw [hn] at hl ⊢
  clear hc hr hn hok
  go_enter Tryz.func77, Tryz.ntmps77
  go_wp2
  go_loopg [4, 9] n (fun gk vb vi wr => ∃ (i : Nat), vi = .int .i64 i ∧ i ≤ n ∧ n - i ≤ gk ∧ Hid (OwnB w.heap.size wr vb (textOf (l.take i)) ∧ Below w.heap.size w wr))
  case atStart => exact ⟨0, rfl, Nat.zero_le _, by omega, Lib.hid ⟨OwnB.nil _ _, Below.refl _ _⟩⟩
  case round =>
    obtain ⟨i, rfl, hi, hg1, HI⟩ := hrel
    by_cases hlt : i < n
    · have hz : (i : Int) < (n : Int) := by omega
      obtain ⟨x, hx⟩ : ∃ x, l[i]? = some x := ⟨_, List.getElem?_eq_getElem (by rw [HN.out]; exact hlt)⟩
      obtain ⟨b, off, rfl, cx0⟩ := HC.out i x hx
      have cx := Sb.later_cell HI.out.2 cx0
      have HTT := Lib.hid (HT.out i x hx)
      have hxo := HOK.out x (List.mem_of_getElem? hx)
      have HVR := Lib.hid (fun (W : World) => Tryz.utf8_ValidRune x W)
      have HLN := Lib.hid (HTL.out i)
      clear cx0
      by_cases hch : isChar x = true
      · have HES := Lib.hid (enc_str hch)
        rw [valid_char, hch] at HVR
        clear hx hxo hch
        go_wp2_with (first
          | (go_at_call 119; (with_reducible refine (HVR.out _).mono ?_); rintro e w2 ⟨rfl, rfl⟩)
          | (at_builtin; refine wpList_append_str rfl _ _ rfl w.heap.size _ (textOf (l.take i)) rfl HI.out.1 (Utf8.encode x) rfl (by have := HLN.out; have := HES.out.2; omega) HI.out.2.size ?_; intro v3 w3 ho3 hb3; rw [HES.out.1, ← HTT.out] at ho3; have HO3 := Lib.hid ho3; have HB3 := Lib.hid (HI.out.2.trans hb3); clear ho3 hb3))
        go_roundg (n - (i + 1))
        case rel => exact ⟨i + 1, by go_num, by omega, by omega, Lib.hid ⟨HO3.out, HB3.out⟩⟩
        case measure => omega
      · have hch' : isChar x = false := by simpa using hch
        have hr1 : 1114240 ≤ x ∧ x ≤ 1114367 := hxo.resolve_left hch
        obtain ⟨q0, q1⟩ := hr1
        have HEB : Hid (encP x = [(x - 1114112).toNat.toUInt8] ∧ x - 1114112 = (((x - 1114112).toNat.toUInt8).toNat : Int)) := Lib.hid ⟨by unfold encP; rw [if_pos (by omega)], (byteN (by omega) (by omega)).symm⟩
        rw [valid_char, hch'] at HVR
        have e1 : IntKind.i32.wrap (x - 1114112) = x - 1114112 := IntWalk.i32_in _ (by omega)
        have e2 : IntKind.u8.wrap (x - 1114112) = x - 1114112 := IntWalk.u8_in _ (by omega)
        clear hx hxo hch hch'
        go_wp2_with (first
          | (go_at_call 119; (with_reducible refine (HVR.out _).mono ?_); rintro e w2 ⟨rfl, rfl⟩)
          | (at_builtin; refine wpList_append_byte HEB.out.2 rfl _ _ rfl w.heap.size _ (textOf (l.take i)) rfl HI.out.1 rfl (Nat.le_trans HLN.out (by decide)) HI.out.2.size ?_; intro v3 w3 ho3 hb3; rw [← HEB.out.1, ← HTT.out] at ho3; have HO3 := Lib.hid ho3; have HB3 := Lib.hid (HI.out.2.trans hb3); clear ho3 hb3))
        go_roundg (n - (i + 1))
        case rel => exact ⟨i + 1, by go_num, by omega, by omega, Lib.hid ⟨HO3.out, HB3.out⟩⟩
        case measure => omega
    · have hin : i = l.length := by rw [HN.out]; omega
      have HO : Hid (OwnB w.heap.size wr u4 (textOf l)) := Lib.hid (by have := HI.out.1; rw [hin, List.take_of_length_le (Nat.le_refl _)] at this; exact this)
      have hz : ¬ (i : Int) < (n : Int) := by omega
      have hcv := bytes_conv HO.out
      clear hin hlt
      go_wp2
      go_ret2
      exact ⟨rfl, HI.out.2⟩
end Go.Proofs.YtikpkjpnehkbfaaGreatDoor.Nw
namespace Go.Proofs.YtikpkjpnehkbfaaGreatDoor.Nw
open Go Go.RowKit Go.Shelf Go.Proofs.YtikpkjpnehkbfaaGreatDoor.Sp Go.Proofs.YtikpkjpnehkbfaaGreatDoor.Pr Go.Proofs.YtikpkjpnehkbfaaGreatDoor.Rf Go.Proofs.YtikpkjpnehkbfaaGreatDoor.Nm Go.Proofs.YtikpkjpnehkbfaaGreatDoor.Sb Go.Proofs.YtikpkjpnehkbfaaGreatDoor.Ut
def normT (D : PD) (s : Bytes) (composed : Bool) : Bytes := textOf (if composed then compN D (ptsOf s) else decN D (ptsOf s))
abbrev OfAt (s : ByteArray) (l : List Int) : Prop := ∀ W, Calls Tryz.prog 37 #[.string s] W (RowBack l W)
theorem ofAt {s : ByteArray} (hs : s.size ≤ 1073741824) {l : List Int} (h : ptsOf s.data.toList = l) : OfAt s l := fun W => (of_calls s hs W).mono fun e w' h' => by rw [h] at h'; exact rowAt_own h'
set_option maxHeartbeats 4000000 in
set_option maxRecDepth 100000 in
theorem normText_calls {w : World} {p : Nat} {D : PD} (H : PropsAt w.heap.size w p D) (hg : Nm.Good D) (s : ByteArray) (c : Bool) {W : World} (hb : Below w.heap.size w W) (hs : s.size ≤ 1073741824) (hf : (flat D (ptsOf s.data.toList)).length ≤ 16777216) :
    Calls Tryz.prog 35 #[.pointer (some ⟨p, 0, none⟩), .string s, .bool c] W fun e W' => e = .returned (.string ⟨(normT D s.data.toList c).toArray⟩) ∧ Below W.heap.size W W' := by
  have HO := Lib.hid (ofAt hs (l := ptsOf s.data.toList) rfl)
  have HD := Lib.hid (decAt H hg (l := ptsOf s.data.toList) rfl hf)
  have HC := Lib.hid (comAt H hg (l := ptsOf s.data.toList) rfl hf)
  have hpo : ∀ r ∈ ptsOf s.data.toList, okP r := pts_ok _ _ (Nat.le_refl _)
  have OD : Hid ((∀ r ∈ decN D (ptsOf s.data.toList), okP r) ∧ (decN D (ptsOf s.data.toList)).length ≤ 16777216) := Lib.hid ⟨dec_ok hg hpo, by unfold decN; rw [ordR_length]; exact hf⟩
  have OC : Hid ((∀ r ∈ compN D (ptsOf s.data.toList), okP r) ∧ (compN D (ptsOf s.data.toList)).length ≤ 16777216) := Lib.hid ⟨(sk_comp hg hpo).2, Nat.le_trans (comp_length D _) (by unfold decN; rw [ordR_length]; exact hf)⟩
  have HB := Lib.hid hb
  have HT : Hid (normT D s.data.toList true = textOf (compN D (ptsOf s.data.toList)) ∧ normT D s.data.toList false = textOf (decN D (ptsOf s.data.toList))) := Lib.hid ⟨rfl, rfl⟩
  clear hpo H hb hf hs hg
  generalize compN D (ptsOf s.data.toList) = cl at *
  generalize decN D (ptsOf s.data.toList) = dl at *
  generalize ptsOf s.data.toList = l at *
  cases c
  · rw [HT.out.2]
    go_enter Tryz.func35, Tryz.ntmps35
    go_wp2_with (first
      | (go_at_call 37; (with_reducible refine (HO.out _).mono ?_); rintro e w1 ⟨A1, K1, rfl, R1, hb1⟩; have HB1 := Lib.hid hb1; clear hb1)
      | (go_at_call 18; (refine (HD.out _ _ (bl_then HB.out HB1.out) R1).mono ?_); rintro e w2 ⟨A2, K2, rfl, R2, hb2⟩; have HB2 := Lib.hid (bl_then HB1.out hb2); clear hb2 R1)
      | (go_at_call 77; (refine (text_calls R2 OD.out.1 OD.out.2).mono ?_); rintro e w3 ⟨rfl, hb3⟩; have HB3 := Lib.hid (bl_then HB2.out hb3); clear hb3 R2))
    go_ret
    exact ⟨rfl, HB3.out⟩
  · rw [HT.out.1]
    go_enter Tryz.func35, Tryz.ntmps35
    go_wp2_with (first
      | (go_at_call 37; (with_reducible refine (HO.out _).mono ?_); rintro e w1 ⟨A1, K1, rfl, R1, hb1⟩; have HB1 := Lib.hid hb1; clear hb1)
      | (go_at_call 19; (refine (HC.out _ _ (bl_then HB.out HB1.out) R1).mono ?_); rintro e w2 ⟨A2, K2, rfl, R2, hb2⟩; have HB2 := Lib.hid (bl_then HB1.out hb2); clear hb2 R1)
      | (go_at_call 77; (refine (text_calls R2 OC.out.1 OC.out.2).mono ?_); rintro e w3 ⟨rfl, hb3⟩; have HB3 := Lib.hid (bl_then HB2.out hb3); clear hb3 R2))
    go_ret
    exact ⟨rfl, HB3.out⟩
abbrev TextAt (w : World) (p : Nat) (s : ByteArray) (c : Bool) (t : ByteArray) : Prop := ∀ W, Below w.heap.size w W → Calls Tryz.prog 35 #[.pointer (some ⟨p, 0, none⟩), .string s, .bool c] W fun e W' => e = .returned (.string t) ∧ Below W.heap.size W W'
theorem textAt {w : World} {p : Nat} {D : PD} (H : PropsAt w.heap.size w p D) (hg : Nm.Good D) {s : ByteArray} {c : Bool} {t : ByteArray} (h : (⟨(normT D s.data.toList c).toArray⟩ : ByteArray) = t) (hs : s.size ≤ 1073741824) (hf : (flat D (ptsOf s.data.toList)).length ≤ 16777216) : TextAt w p s c t := fun W hb => by
  rw [← h]; exact normText_calls H hg s c hb hs hf
end Go.Proofs.YtikpkjpnehkbfaaGreatDoor.Nw
