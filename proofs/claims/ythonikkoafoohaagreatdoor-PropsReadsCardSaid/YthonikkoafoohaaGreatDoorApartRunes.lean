/- glossarykit.ApartRunes at lists of one's own, no two of which lead to one block: true; nothing older than these lists is written. -/
import Derived.Test.YthonikkoafoohaaGreatDoorApartLaws
import Derived.Test.YthonikkoafoohaaGreatDoorProg
import Derived.WalkKit
import Derived.OwnWalk
import Derived.Deep.RegionHeld3
import Derived.Deep.DeepFit
import Derived.Laws.Pointers
import Derived.Lib.Hide
import Derived.KernelRfl
namespace Go.Proofs.YthonikkoafoohaaGreatDoor.Rowl
open Go Go.RowKit

theorem infoRunes : (Tryz.prog.info? 21).map (fun i => (i.zero, i.size, i.bytes)) = some (some (Value.int .i32 0), 1, 4) := by kernel_rfl
theorem infoRowRunes : (Tryz.prog.info? 36).map (fun i => (i.zero, i.size, i.bytes)) = some (some (.slice none 0 0), 1, 24) := by kernel_rfl

set_option maxHeartbeats 4000000 in
set_option maxRecDepth 100000 in
theorem ApartRunes_calls (mk : Nat → Nat → Int) (hM : ∀ (k i : Int) (w : World), 0 ≤ k → k < 4294967296 → 0 ≤ i → i < 1099511628000 → Calls Tryz.prog 132 #[.int .i64 k, .int .i64 i] w fun e w' => e = .returned (Value.int .i32 (mk k.toNat i.toNat)) ∧ Below w.heap.size w w')
    (w : World) (B n : Nat) (v : Nat → Value) (len : Nat → Nat) (ys : Nat → List Value) (bL oL cL : Nat)
    (hr : Rows w B 21 n v len ys) (hd : Dist n v) (ho : Outer w ⟨bL, oL, none⟩ n v) (hf : Far ⟨bL, oL, none⟩ n v) (hn : n ≤ 1000000) (hlen : ∀ k, k < n → len k ≤ 1099511627776) (hB : B ≤ w.heap.size) :
    Calls Tryz.prog 86 #[.slice (some ⟨bL, oL, none⟩) n cL] w fun e w' => e = .returned (.bool true) ∧ Below B w w' := by
  obtain ⟨infoX, hiX, hz0X, hz1X, hz2X⟩ := info_parts infoRowRunes
  have HM := Lib.hid hM
  have HD := Lib.hid hd
  have HF := Lib.hid hf
  have HL := Lib.hid hlen
  have HS : Hid (First w B 21 n 0 (fun a b => Value.int .i32 (mk a b)) v len ⟨bL, oL, none⟩ 0 w) := Lib.hid ⟨ys, hr, fun _ h => absurd h (Nat.not_lt_zero _), fun _ h => absurd h (Nat.not_lt_zero _), ho, Below.refl _ _⟩
  clear hM hd hf hlen hr ho
  go_enter Tryz.func86, Tryz.ntmps86
  go_wp2
  go_loopw [3] (fun s3 wr => ∃ K : Nat, K ≤ n ∧ s3 = .int .i64 K ∧ Hid (First w B 21 n K (fun a b => Value.int .i32 (mk a b)) v len ⟨bL, oL, none⟩ 0 wr)) (fun s3 _ => n - (intOf s3).toNat)
  case atStart => exact ⟨0, Nat.zero_le _, rfl, HS⟩
  case round =>
    clear HS
    obtain ⟨K, hK, rfl, HR⟩ := hrel
    by_cases hKn : K < n
    · obtain ⟨A, c, hvK, hcell⟩ : ∃ A c, Hid (v K = .slice A (len K) c) ∧ wr.cell? ⟨bL, oL + K, none⟩ = some (.slice A (len K) c) := by
        obtain ⟨zs, h1, _, _, h4, _⟩ := HR.out
        obtain ⟨A, c, e⟩ := own_slice (h1 K hKn)
        exact ⟨A, c, Lib.hid e, by rw [← e, ← h4 K hKn, Addr.add_lit]⟩
      have hlK : len K ≤ 1099511627776 := HL.out K hKn
      have hKi : (K : Int) < (n : Int) := by omega
      have hK0 : (0 : Int) ≤ (K : Int) := by omega
      go_wp2
      obtain ⟨wo, rfl⟩ : ∃ wo : World, wo = wr := ⟨_, rfl⟩
      clear hcell
      go_loopw [4] (fun s4 wr2 => ∃ I : Nat, I ≤ len K ∧ s4 = .int .i64 I ∧ Hid (First w B 21 n K (fun a b => Value.int .i32 (mk a b)) v len ⟨bL, oL, none⟩ I wr2)) (fun s4 _ => len K - (intOf s4).toNat)
      case atStart => exact ⟨0, Nat.zero_le _, rfl, HR⟩
      case round =>
        clear HR
        obtain ⟨I, hI, rfl, HR⟩ := hrel
        have hcell : wr.cell? ⟨bL, oL + K, none⟩ = some (.slice A (len K) c) := by
          obtain ⟨zs, h1, _, _, h4, _⟩ := HR.out
          rw [← hvK.out, ← h4 K hKn, Addr.add_lit]
        by_cases hIl : I < len K
        · obtain ⟨g, rfl, old, hc2, hf2, ltg, ltb⟩ : ∃ g, A = some ⟨g, 0, none⟩ ∧ ∃ old, wr.cell? ⟨g, I, none⟩ = some old ∧ wr.frozen? ⟨g, I, none⟩ = false ∧ g < wr.heap.size ∧ bL < wr.heap.size := by
            obtain ⟨zs, h1, _, _, h4, _⟩ := HR.out
            have hrow := h1 K hKn
            obtain ⟨g, c', e, _, hgl, _, _⟩ := own_some hrow (by omega)
            have hv := hvK.out
            rw [e] at hv
            injection hv with hA _ hc
            subst hA
            subst hc
            rw [e] at hrow
            have hl := hrow.1
            refine ⟨g, rfl, (zs K)[I]'(by omega), ?_, hrow.frozenAt I, hgl, h4.lt (by omega)⟩
            rw [hrow.cellAt I (by omega), List.getElem?_eq_getElem]
          have hIi : (I : Int) < (len K : Int) := by omega
          have hI0 : (0 : Int) ≤ (I : Int) := by omega
          go_wp2
          have hgb : g ≠ bL := fun e => HF.out K hKn (by rw [hvK.out, e]; rfl)
          go_region_held3 (fun w' => w'.cell? ⟨bL, oL + K, none⟩ = some (.slice (some ⟨g, 0, none⟩) (len K) c))
            (first | go_keep | (exact (hb.cell (p := ⟨bL, oL + K, none⟩) (by simpa using ltb)).trans (by simpa using hcell)) | (rw [World.cell?_setCell_far _ _ _ _ hgb]; assumption) | (rw [World.cell?_setCell_far _ _ _ _ hgb]; simp; assumption) | (rw [World.cell?_setCell_far _ _ _ _ hgb]; simp [*]))
            (first | (go_at_call 132; refine (HM.out _ _ _ (by omega) (by omega) (by omega) (by omega)).mono ?_; rintro e w1 ⟨rfl, hb⟩; have hx2 := (hb.cell (p := ⟨g, I, none⟩) (by simpa using ltg)).trans (by simpa using hc2); have hx3 := (hb.frozen (p := ⟨g, I, none⟩) (by simpa using ltg)).trans (by simpa using hf2)))
          go_wp2
          go_roundw
          case rel => exact ⟨I + 1, by omega, by go_num, Lib.hid (((HR.out.later hB ((Below.refl _ _).drew)).later hB hb).store HD.out HF.out hKn hvK.out hIl)⟩
          case measure => simp [intOf]; omega
        · have hIe : I = len K := by omega
          subst hIe
          go_wp2
          go_roundw
          case rel => exact ⟨K + 1, by omega, by go_num, Lib.hid (HR.out.next hKn)⟩
          case measure => simp [intOf]; omega
    · have hKe : K = n := by omega
      subst hKe
      have HR2 := Lib.hid (Second.start HR.out HD.out HF.out 36)
      clear HR
      go_wp2
      go_loopw [5, 6] (fun s5 s6 wr => ∃ (M : Nat) (Ag : Option Addr) (cg : Nat), M ≤ K ∧ s6 = .int .i64 M ∧ s5 = .slice Ag M cg ∧ Hid (Second w B 21 36 K M (fun a b => Value.int .i32 (mk a b)) v len ⟨bL, oL, none⟩ (.slice Ag M cg) 0 (v M) wr)) (fun _ s6 _ => K - (intOf s6).toNat)
      case atStart => exact ⟨0, none, 0, Nat.zero_le _, rfl, rfl, HR2⟩
      case round =>
        clear HR2
        obtain ⟨M, Ag, cg, hM, rfl, rfl, HR⟩ := hrel
        by_cases hMn : M < K
        · obtain ⟨A, c, hvM, hcell⟩ : ∃ A c, Hid (v M = .slice A (len M) c) ∧ wr.cell? ⟨bL, oL + M, none⟩ = some (.slice A (len M) c) := by
            obtain ⟨h', hl, G, _⟩ := HR.out
            obtain ⟨A, c, e⟩ := own_slice (G.old M hMn)
            exact ⟨A, c, Lib.hid e, by rw [← e, ← G.out M hMn, Addr.add_lit]⟩
          have hlM : len M ≤ 1099511627776 := HL.out M hMn
          have hMi : (M : Int) < (K : Int) := by omega
          have hM0 : (0 : Int) ≤ (M : Int) := by omega
          have HR1 : Hid (Second w B 21 36 K M (fun a b => Value.int .i32 (mk a b)) v len ⟨bL, oL, none⟩ (.slice Ag M cg) 0 (.slice A (len M) c) wr) := Lib.hid (by rw [← hvM.out]; exact HR.out)
          clear HR
          go_wp2
          obtain ⟨wo, rfl⟩ : ∃ wo : World, wo = wr := ⟨_, rfl⟩
          clear hcell
          go_loopw [7, 8] (fun s7 s8 wr2 => ∃ (I : Nat) (A7 : Option Addr) (c7 : Nat), I ≤ 64 ∧ s8 = .int .i64 I ∧ s7 = .slice A7 (len M + I) c7 ∧ Hid (Second w B 21 36 K M (fun a b => Value.int .i32 (mk a b)) v len ⟨bL, oL, none⟩ (.slice Ag M cg) I (.slice A7 (len M + I) c7) wr2)) (fun _ s8 _ => 64 - (intOf s8).toNat)
          case atStart => exact ⟨0, A, c, by omega, rfl, rfl, HR1⟩
          case round =>
            clear HR1
            obtain ⟨I, A7, c7, hI, rfl, rfl, HR⟩ := hrel
            have hcell : wr.cell? ⟨bL, oL + M, none⟩ = some (.slice A (len M) c) := by
              obtain ⟨h', hl, G, _⟩ := HR.out
              rw [← hvM.out, ← G.out M hMn, Addr.add_lit]
            by_cases hIl : I < 64
            · have hI0 : (0 : Int) ≤ (I : Int) := by omega
              have hIi : (I : Int) < 64 := by omega
              have hrow : Hid (wr.ownsRow B 21 1 (.slice A7 (len M + I) c7) (len M + I) (marks (fun a b => Value.int .i32 (mk a b)) M (len M + I))) := Lib.hid (by
                obtain ⟨h', hl, G, _, _, h4, _⟩ := HR.out
                obtain ⟨e1, e2⟩ := h4 hMn
                have := G.new M hMn
                simp only [e1, e2] at this
                exact this)
              have hBw : B ≤ wr.heap.size := by
                obtain ⟨_, _, _, _, _, _, h5⟩ := HR.out
                have := h5.size; omega
              go_wp2_with (first
                | (go_at_call 132; refine (HM.out _ _ _ (by omega) (by omega) (by omega) (by omega)).mono ?_; rintro e w1 ⟨rfl, hb⟩)
                | (at_builtin; refine wpList_append_split _ rfl (.tmp 50) (.tmp 60) 36 rfl B 21 (Value.int .i32 0) 1 4 Tryz.underlying36 infoRunes rfl (by decide) _ (len M + I) (marks (fun a b => Value.int .i32 (mk a b)) M (len M + I)) rfl ((own_later hrow.out hb).alloc _) ⟨w1.heap.size, 0, none⟩ 1 1 [Value.int .i32 (mk M (len M + I))] rfl rfl (cell_one_new _ _ _) (by simp [Value.oneCell']) (by decide) (by unfold maxLen; omega) (by omega) (by have := hb.size; simp; omega) ?_; intro v' w2 hown' hgrow hsp; obtain ⟨A8, c8, rfl⟩ := own_slice hown'))
              go_roundw
              case rel => exact ⟨I + 1, A8, c8, by omega, by go_num, rfl, Lib.hid (Second.append ((HR.out.later hB hb).later hB ((Below.refl _ _).alloc (Nat.le_refl _) _)) hMn (by decide) hown' hgrow hsp (by have := hb.size; simp; omega))⟩
              case measure => simp [intOf]; omega
            · have hIe : I = 64 := by omega
              subst hIe
              have hone : (Value.slice A7 (len M + 64) c7).oneCell' = true := rfl
              have hBw : B ≤ wr.heap.size := by
                obtain ⟨_, _, _, _, _, _, h5⟩ := HR.out
                have := h5.size; omega
              have hrow : Hid (∃ xs, wr.ownsRow B 36 1 (.slice Ag M cg) M xs) := Lib.hid (by
                obtain ⟨h', hl, G, _⟩ := HR.out
                exact ⟨_, G.row⟩)
              obtain ⟨xs, hxs⟩ := hrow.out
              have Hxs := Lib.hid hxs
              clear hxs
              go_wp2_with (at_builtin; refine wpList_append_own_at _ rfl (.tmp 62) (.tmp 64) 91 rfl B 36 infoX (.slice none 0 0) 1 24 Tryz.underlying91 hiX hz0X hz1X hz2X rfl (by decide) _ M xs rfl (Hxs.out.alloc _) ⟨wr.heap.size, 0, none⟩ 1 1 [.slice A7 (len M + 64) c7] rfl rfl (cell_one_new _ _ _) (by simp [Value.oneCell']) (by unfold maxLen; omega) (by omega) (by simp; omega) ?_; intro v' w2 hown' hgrow _ hsp; obtain ⟨A8, c8, rfl⟩ := own_slice hown')
              go_roundw
              case rel => exact ⟨M + 1, A8, c8, by omega, by go_num, rfl, Lib.hid (Second.put (HR.out.later hB ((Below.refl _ _).alloc (Nat.le_refl _) _)) hMn (by decide) (Hxs.out.alloc _) hown' hgrow hsp (by simp; omega))⟩
              case measure => simp [intOf]; omega
        · have hMe : M = K := by omega
          subst hMe
          have HT : Hid (Third w B 21 36 M (fun a b => Value.int .i32 (mk a b)) v len ⟨bL, oL, none⟩ (.slice Ag M cg) wr) := Lib.hid (Second.done HR.out)
          clear HR
          go_wp2
          go_loopw [9] (fun s9 wr => ∃ J : Nat, J ≤ M ∧ s9 = .int .i64 J ∧ Hid (Third w B 21 36 M (fun a b => Value.int .i32 (mk a b)) v len ⟨bL, oL, none⟩ (.slice Ag M cg) wr)) (fun s9 _ => M - (intOf s9).toNat)
          case atStart => exact ⟨0, Nat.zero_le _, rfl, HT⟩
          case round =>
            clear HT
            obtain ⟨J, hJ, rfl, HT⟩ := hrel
            by_cases hJn : J < M
            · obtain ⟨bg, cg', Ah, ch, eg, hgc, Hgc⟩ : ∃ bg cg' Ah ch, Ag = some ⟨bg, 0, none⟩ ∧ wr.cell? ⟨bg, J, none⟩ = some (.slice Ah (len J + 64) ch) ∧ cg' = cg := by
                obtain ⟨bg, cg', Ah, ch, e1, e2, _⟩ := HT.out.newCell hJn
                injection e1 with e3 _ e4
                exact ⟨bg, cg, Ah, ch, e3, e2, rfl⟩
              clear Hgc cg'
              subst eg
              have hlJ : len J ≤ 1099511627776 := HL.out J hJn
              have hJi : (J : Int) < (M : Int) := by omega
              have hJ0 : (0 : Int) ≤ (J : Int) := by omega
              go_wp2
              obtain ⟨wo, rfl⟩ : ∃ wo : World, wo = wr := ⟨_, rfl⟩
              clear hgc
              go_loopw [10] (fun s10 wr => ∃ I : Nat, I ≤ len J + 64 ∧ s10 = .int .i64 I ∧ Hid (Third w B 21 36 M (fun a b => Value.int .i32 (mk a b)) v len ⟨bL, oL, none⟩ (.slice (some ⟨bg, 0, none⟩) M cg) wr)) (fun s10 _ => len J + 64 - (intOf s10).toNat)
              case atStart => exact ⟨0, by omega, rfl, HT⟩
              case round =>
                clear HT
                obtain ⟨I, hI, rfl, HT⟩ := hrel
                obtain ⟨bg', cg', Ah, ch, e1, hgc, hcells⟩ := HT.out.newCell hJn
                injection e1 with e3 _ e4
                injection e3 with e3
                injection e3 with e3
                subst e3
                clear e4
                by_cases hIl : I < len J + 64
                · obtain ⟨gh, rfl, hch⟩ := hcells I hIl
                  clear hcells
                  obtain ⟨A, c, hvJ, hcell, hold⟩ := HT.out.oldCell hJn
                  have Hold := Lib.hid hold
                  clear hold hvJ
                  have hI0 : (0 : Int) ≤ (I : Int) := by omega
                  have hIi : (I : Int) < (len J : Int) + 64 := by omega
                  have l1 := World.block_lt_of_cell? wr _ hgc
                  have l2 := World.block_lt_of_cell? wr _ hch
                  have l3 := World.block_lt_of_cell? wr _ hcell
                  by_cases hIo : I < len J
                  · obtain ⟨go, rfl, hco⟩ := Hold.out I hIo
                    have hIo' : (I : Int) < (len J : Int) := by omega
                    have l4 := World.block_lt_of_cell? wr _ hco
                    go_wp2_with (go_at_call 132; refine (HM.out _ _ _ (by omega) (by omega) (by omega) (by omega)).mono ?_; rintro e w1 ⟨rfl, hb⟩; have k1 := (hb.cell (p := ⟨bg, J, none⟩) l1).trans hgc; have k2 := (hb.cell (p := ⟨gh, I, none⟩) l2).trans hch; have k3 := (hb.cell (p := ⟨bL, oL + J, none⟩) l3).trans hcell; have k4 := (hb.cell (p := ⟨go, I, none⟩) l4).trans hco)
                    go_roundw
                    case rel => exact ⟨I + 1, by omega, by go_num, Lib.hid (HT.out.later hB hb)⟩
                    case measure => simp [intOf]; omega
                  · have hIo' : decide ((I : Int) < (len J : Int)) = false := decide_eq_false (by omega)
                    have hIo2 : (len J : Int) ≤ (I : Int) := by omega
                    go_wp2_with (go_at_call 132; refine (HM.out _ _ _ (by omega) (by omega) (by omega) (by omega)).mono ?_; rintro e w1 ⟨rfl, hb⟩; have k1 := (hb.cell (p := ⟨bg, J, none⟩) l1).trans hgc; have k2 := (hb.cell (p := ⟨gh, I, none⟩) l2).trans hch; have k3 := (hb.cell (p := ⟨bL, oL + J, none⟩) l3).trans hcell)
                    go_roundw
                    case rel => exact ⟨I + 1, by omega, by go_num, Lib.hid (HT.out.later hB hb)⟩
                    case measure => simp [intOf]; omega
                · have hIe : I = len J + 64 := by omega
                  subst hIe
                  clear hcells
                  go_wp2
                  go_roundw
                  case rel => exact ⟨J + 1, by omega, by go_num, HT⟩
                  case measure => simp [intOf]; omega
            · have hJe : J = M := by omega
              subst hJe
              go_wp2
              go_ret
              obtain ⟨_, _, _, _, h5⟩ := HT.out
              exact ⟨rfl, h5⟩
theorem ApartRunes_nil (w : World) : Calls Tryz.prog 86 #[.slice none 0 0] w fun e w' => e = .returned (.bool true) ∧ w' = w := by
  go_enter Tryz.func86, Tryz.ntmps86
  go_wp2
  refine wp_loop_rounds 1 ?_
  rw [rounds_succ]
  go_wp2
  refine wp_loop_rounds 1 ?_
  rw [rounds_succ]
  go_wp2
  refine wp_loop_rounds 1 ?_
  rw [rounds_succ]
  go_wp2
  go_ret
  exact ⟨rfl, rfl⟩
end Go.Proofs.YthonikkoafoohaaGreatDoor.Rowl
