/- points.Of: the walk. -/
import Derived.Test.YtikpkjpnehkbfaaGreatDoorNormComp
import Derived.Test.YtikpkjpnehkbfaaGreatDoorNormRunes
import Derived.Laws.RangeAny
import Derived.Lib.OthersKept
namespace Go.Proofs.YtikpkjpnehkbfaaGreatDoor.Nw
open Go Go.RowKit Go.Shelf Go.Proofs.YtikpkjpnehkbfaaGreatDoor.Sp Go.Proofs.YtikpkjpnehkbfaaGreatDoor.Pr Go.Proofs.YtikpkjpnehkbfaaGreatDoor.Rf Go.Proofs.YtikpkjpnehkbfaaGreatDoor.Nm Go.Proofs.YtikpkjpnehkbfaaGreatDoor.Sb Go.Proofs.YtikpkjpnehkbfaaGreatDoor.Ut
set_option linter.unusedSimpArgs false
set_option linter.unusedVariables false

theorem enc_raw (l : List Int) : l.map (Value.int .i32) = enc l := rfl
/-- []rune(s). -/
theorem runes_conv (s : ByteArray) (hs : s.size ≤ 1073741824) (w : World) : ∃ n cap W1, (convert 9 22 (.string s)).run Tryz.prog w = .ok (.slice (some ⟨w.heap.size, 0, none⟩) n cap) W1 ∧ n = (rawOf s.data.toList).length ∧ OwnPts w.heap.size W1 (.slice (some ⟨w.heap.size, 0, none⟩) n cap) (rawOf s.data.toList) ∧ Below w.heap.size w W1 ∧ W1.heap.size = w.heap.size + 1 := by
  have hz : (Conv.runesFrom s s.size 0 #[]).size = (rawOf s.data.toList).length := by rw [← Array.length_toList, runes_raw, List.length_map]
  have hle : (Conv.runesFrom s s.size 0 #[]).size ≤ s.size := by rw [runes_size, Lib.size_eq]; exact ptsL_len _
  have e := run_runes_of_string (P := Tryz.prog) w 9 22 21 s Tryz.underlying9 Tryz.underlying22 Tryz.underlying21 (by omega)
  have h1 := grownCap_ge w (Conv.runesFrom s s.size 0 #[]).size 0 21
  have h2 := grownCap_le_maxLen w (Conv.runesFrom s s.size 0 #[]).size 0 21 (by simp only [maxLen]; omega)
  refine ⟨_, _, _, e, hz, ?_, ((Below.refl _ w).drew).alloc (Nat.le_refl _) _, by rw [World.size_alloc]; rfl⟩
  unfold OwnPts World.ownsRow
  rw [← hz]
  refine ⟨by rw [enc_length, Nat.mul_one, hz], .inr ⟨w.heap.size, _, _, rfl, Nat.le_refl _, World.alloc_heap_new w.drew _, h1, h2, ?_, ?_⟩⟩
  · rw [Array.size_append, Array.size_replicate]; omega
  · rw [Array.toList_append, runes_raw, Nat.mul_one, hz, enc_raw, ← enc_length (rawOf s.data.toList)]
    exact List.take_left ..
theorem own_block_iter {n₀ K pos : Nat} {W : World} {v : Value} {l : List Int} (h : OwnPts n₀ W v l) (s : ByteArray) (hv : ∀ g, v.ownBlock = some g → g < K) : OwnPts n₀ (W.iterAt K s pos) v l :=
  Rowl.own_below h (Lib.below_iterAt (Below.refl K W) (Nat.le_refl K) s pos) hv
set_option maxHeartbeats 4000000 in
set_option maxRecDepth 100000 in
theorem of_calls (s : ByteArray) (hs : s.size ≤ 1073741824) (w : World) : Calls Tryz.prog 37 #[.string s] w fun e w' => ∃ v, e = .returned v ∧ OwnPts w.heap.size w' v (ptsOf s.data.toList) ∧ Below w.heap.size w w' := by
  obtain ⟨n, cap, W1, hcv, hn, ho1, hb1, hz1⟩ := runes_conv s hs w
  have hnl : n ≤ s.size := by rw [hn, raw_len _ _ (Nat.le_refl _), Lib.size_eq]; exact ptsL_len _
  have HN := Lib.hid hn
  have HO1 := Lib.hid ho1
  have HB1 := Lib.hid hb1
  have HZ1 := Lib.hid hz1
  clear hn ho1 hb1 hz1
  go_enter Tryz.func37, Tryz.ntmps37
  go_wp2
  go_loopg [4] s.size (fun gk vk wr => ∃ (pos k : Nat) (P : List Int), vk = .int .i64 k ∧ pos ≤ s.size ∧ s.size ≤ pos + gk ∧ k ≤ pos ∧ Hid (P.length = k ∧ ptsOf s.data.toList = P ++ ptsOf (s.data.toList.drop pos) ∧ wr.heap[W1.heap.size]? = some (.stringIter s pos) ∧ OwnPts w.heap.size wr (.slice (some ⟨w.heap.size, 0, none⟩) n cap) (P ++ rawOf (s.data.toList.drop pos)) ∧ Below w.heap.size w wr))
  case atStart => exact ⟨0, 0, [], rfl, Nat.zero_le _, by omega, Nat.le_refl _, Lib.hid ⟨rfl, rfl, World.iter_heap W1 s 0, Rowl.own_later HO1.out ((Below.refl _ W1).alloc (Nat.le_refl _) _), (HB1.out).alloc HB1.out.size _⟩⟩
  case round =>
    obtain ⟨pos, k, P, rfl, hp, hfu, hkp, HI⟩ := hrel
    obtain ⟨hP, hpt, hit, hown, hbw⟩ := HI.out
    by_cases hlt : pos < s.size
    · obtain ⟨g', rfl⟩ : ∃ g', gk = g' + 1 := ⟨gk - 1, by omega⟩
      have hll : pos < s.data.toList.length := by rw [← Lib.size_eq]; exact hlt
      have hnx : ∀ ty, (Instr.next (.pointer (some ⟨W1.heap.size, 0, none⟩)) true ty).run Tryz.prog wr = _ := fun ty => Lib.run_next_any_at wr W1.heap.size s pos ty hit hlt
      have hwl := wid_le hll
      rw [← Lib.size_eq] at hwl
      have hwp := wid_pos s.data.toList pos
      obtain ⟨st1, st2⟩ := step_at hll
      rw [decode_widN, decode_runN] at hnx
      have HPX := Lib.hid (fun (W : World) => Tryz.strings_HasPrefix (s.extract pos s.size) ⟨#[239, 191, 189]⟩ W)
      have hex : (s.extract pos s.size).data.toList = s.data.toList.drop pos := by
        rw [Lib.extract_data, List.take_of_length_le (by rw [List.length_drop, ← Lib.size_eq]; exact Nat.le_refl _)]
      rw [hex] at HPX
      have hgb : s.data.toList.getD pos 0 = s[pos]'hlt := by rw [← Lib.getD_at s pos hlt]
      have hpn : (rawOf (s.data.toList.drop pos)).length + k = n := by
        have e1 := congrArg List.length hpt
        have e2 := raw_len _ _ (Nat.le_refl s.data.toList.length)
        have e3 := raw_len _ _ (Nat.le_refl (s.data.toList.drop pos).length)
        rw [List.length_append, hP] at e1
        rw [HN.out, e2, e1, e3]; omega
      rw [st2] at hpn hown
      rw [st1] at hpt
      rw [List.length_cons] at hpn
      have hkn : k < n := by omega
      obtain ⟨r, hr⟩ : ∃ r : Nat, run s.data.toList pos = r := ⟨_, rfl⟩
      rw [hr] at hnx hown
      have hp2 : pos + wid s.data.toList pos ≤ s.size := hwl
      have hfu2 : s.size ≤ pos + wid s.data.toList pos + g' := by omega
      have hk2 : k + 1 ≤ pos + wid s.data.toList pos := by omega
      have hgl : ∀ g, (Value.slice (some ⟨w.heap.size, 0, none⟩) n cap).ownBlock = some g → g < W1.heap.size := by
        intro g h
        obtain rfl : w.heap.size = g := by simpa [Value.ownBlock] using h
        rw [HZ1.out]
        exact Nat.lt_succ_self _
      have HOI := Lib.hid (own_block_iter (pos := pos + wid s.data.toList pos) hown s hgl : OwnPts w.heap.size (wr.iterAt W1.heap.size s (pos + wid s.data.toList pos)) _ _)
      have HIT := Lib.hid (Lib.iterAt_heap wr W1.heap.size s pos (pos + wid s.data.toList pos) hit)
      have HBI := Lib.hid (Lib.below_iterAt hbw (k := W1.heap.size) (by rw [HZ1.out]; omega) s (pos + wid s.data.toList pos))
      have HPL := Lib.hid hP
      have HPT := Lib.hid hpt
      have HPE : Hid (r ≠ 65533 → ptL (s.data.toList.drop pos) = (r : Int)) := Lib.hid (fun h => by rw [← hr] at h ⊢; exact pt_plain h)
      have HPF : Hid (r = 65533 → ptL (s.data.toList.drop pos) = if Lib.hasPrefix (s.data.toList.drop pos) [239, 191, 189] = true then 65533 else 1114112 + ((s[pos]'hlt).toNat : Int)) := Lib.hid (fun h => by rw [← hr] at h; rw [pt_fffd hll h, hgb])
      clear hgl hex hgb hpt hit hown hbw st1 st2 hwl hwp hll hp hr
      generalize ptL (s.data.toList.drop pos) = pt at *
      generalize wid s.data.toList pos = wd at *
      obtain ⟨W, hWd⟩ : ∃ W, wr.iterAt W1.heap.size s (pos + wd) = W := ⟨_, rfl⟩
      rw [hWd] at hnx HOI HIT HBI
      clear hWd
      by_cases h1 : r = 65533
      · subst h1
        have HP3 := Lib.hid (HPF.out rfl)
        obtain ⟨b, hb⟩ : ∃ b, Lib.hasPrefix (s.data.toList.drop pos) [239, 191, 189] = b := ⟨_, rfl⟩
        rw [show (⟨#[239, 191, 189]⟩ : ByteArray).data.toList = [239, 191, 189] from rfl, hb] at HPX
        rw [hb] at HP3
        clear hb HPE HPF
        cases b
        · have HSET := Lib.hid (own_set HOI.out (by rw [List.length_append, List.length_cons, HPL.out]; omega) hkn (1114112 + ((s[pos]'hlt).toNat : Int)))
          have hcl := own_cells (i := k) (x := ((65533 : Nat) : Int)) HOI.out (by rw [List.getElem?_append_right (by omega), HPL.out, Nat.sub_self]; rfl)
          have hfz := HSET.out.2.2
          have hby : (s[pos]'hlt).toNat < 256 := (s[pos]'hlt).toNat_lt
          have e1 : IntKind.i32.wrap (1114112 + ((s[pos]'hlt).toNat : Int)) = 1114112 + ((s[pos]'hlt).toNat : Int) := IntWalk.i32_in _ (by omega)
          have hkz : (k : Int) < (n : Int) := by omega
          go_wp2_with (go_at_call 78; (with_reducible refine (HPX.out _).mono ?_); rintro e w2 ⟨rfl, rfl⟩)
          go_roundg g'
          case rel => exact ⟨pos + wd, k + 1, P ++ [pt], by go_num, by omega, by omega, by omega, Lib.hid ⟨by rw [List.length_append, HPL.out]; rfl, by rw [List.append_assoc]; exact HPT.out, (heap_setCell_other _ _ _ _ (show W1.heap.size ≠ w.heap.size by rw [HZ1.out]; omega)).trans HIT.out, by
            have h := HSET.out.1
            rw [← HPL.out, set_mid] at h
            rw [List.append_assoc, HP3.out]
            rw [← HPL.out]
            exact h, HBI.out.trans (HSET.out.2.1.below HBI.out.size (fun g h => by obtain rfl : w.heap.size = g := by simpa [Value.ownBlock] using h
                                                                                   exact Nat.le_refl _))⟩⟩
          case measure => omega
        · go_wp2_with (go_at_call 78; (with_reducible refine (HPX.out _).mono ?_); rintro e w2 ⟨rfl, rfl⟩)
          go_roundg g'
          case rel => exact ⟨pos + wd, k + 1, P ++ [pt], by go_num, by omega, by omega, by omega, Lib.hid ⟨by rw [List.length_append, HPL.out]; rfl, by rw [List.append_assoc]; exact HPT.out, HIT.out, by rw [List.append_assoc, HP3.out]; exact HOI.out, HBI.out⟩⟩
          case measure => omega
      · have HP3 := Lib.hid (HPE.out h1)
        have hrb : ((r : Int) == 65533) = false := beq_eq_false_iff_ne.2 (by omega)
        clear HPE HPF h1
        go_wp2
        go_roundg g'
        case rel => exact ⟨pos + wd, k + 1, P ++ [pt], by go_num, by omega, by omega, by omega, Lib.hid ⟨by rw [List.length_append, HPL.out]; rfl, by rw [List.append_assoc]; exact HPT.out, HIT.out, by rw [List.append_assoc, HP3.out]; exact HOI.out, HBI.out⟩⟩
        case measure => omega
    · have hnx : ∀ ty, (Instr.next (.pointer (some ⟨W1.heap.size, 0, none⟩)) true ty).run Tryz.prog wr = _ := fun ty => Lib.run_next_end_at wr W1.heap.size s pos ty hit hlt
      have HE : Hid (OwnPts w.heap.size wr (.slice (some ⟨w.heap.size, 0, none⟩) n cap) (ptsOf s.data.toList)) := Lib.hid (by
        have e : s.data.toList.drop pos = [] := List.drop_eq_nil_of_le (by rw [← Lib.size_eq]; omega)
        rw [hpt, e, pts_nil]
        rw [e, raw_nil] at hown
        exact hown)
      clear hpt hit hown hlt
      go_wp2
      go_ret
      exact ⟨_, rfl, HE.out, HI.out.2.2.2.2⟩
end Go.Proofs.YtikpkjpnehkbfaaGreatDoor.Nw
