/- cells: All and Back: the iterators' contracts. -/
import Derived.Test.YtfmcadobpgpajaaGreatDoorCellEdge
import Derived.Test.YtfmcadobpgpajaaGreatDoorRefMem
import Derived.RangeFuncNested
import Derived.RangeFuncFrom
import Derived.RangeFuncBound
import Derived.RangeFuncCalls
import Derived.RangeFuncLeaves
import Derived.RangeFuncBox
import Derived.Shelf.Abstract
import Derived.Shelf.RegionOpen
import Derived.WalkKit
import Derived.OwnWalkIn
import Derived.TacticsInMore
import Derived.LoopNIn
import Derived.LoopIn
namespace Go.Proofs.YtfmcadobpgpajaaGreatDoor.Cl
open Go Go.RowKit Go.Shelf Go.Proofs.YtfmcadobpgpajaaGreatDoor.Sp Go.Proofs.YtfmcadobpgpajaaGreatDoor.Ut Go.Proofs.YtfmcadobpgpajaaGreatDoor.Pr Go.Proofs.YtfmcadobpgpajaaGreatDoor.Rf
attribute [local go_sem] Oper.semAt_some
set_option linter.unusedSimpArgs false
set_option linter.unusedVariables false

abbrev encP (x : Nat × Nat) : Array Value := #[.int .i64 (x.1 : Int), .int .i64 (x.2 : Int)]
theorem upto_done (D : PD) (l : List UInt8) : pairs (upto D l l.length) = cells D l := by
  cases l with
  | nil => rfl
  | cons c l => unfold cells; rw [upto_len (by simp)]
theorem pre_done {D : PD} {l : List UInt8} {k : Nat} (h : k ≤ l.length) : pairs (upto D l k) <+: cells D l := by
  cases l with
  | nil => obtain rfl : k = 0 := by simpa using h
           exact List.prefix_refl _
  | cons c l => exact cells_prefix (by simp) h
theorem pre_short {D : PD} {l : List UInt8} {a e : Nat} (ha : edgeB D l a = true) (h : Next D l a e) : (pairs (upto D l a)).length < (cells D l).length := by
  have := (pre_done (D := D) h.2.1).length_le
  rw [cells_next ha h, List.length_append, List.length_singleton] at this
  omega
/-- What the two iterators know: the boxes now; the properties and the tables at an elder world w. -/
structure IterIn (w : World) (zs zp p : Nat) (s : ByteArray) (W : World) : Prop where
  below : Below w.heap.size w W
  hs : W.heap[zs]? = some (.cells #[.string s] 9 (0, 0))
  hp : W.heap[zp]? = some (.cells #[.pointer (some ⟨p, 0, none⟩)] 22 (0, 0))
/-- What a round that goes on keeps. -/
structure KeepI (n₀ zs zp : Nat) (A B : World) : Prop where
  below : Below n₀ A B
  hs : B.heap[zs]? = A.heap[zs]?
  hp : B.heap[zp]? = A.heap[zp]?
theorem KeepI.trans {n₀ zs zp : Nat} {A B C : World} (h : KeepI n₀ zs zp A B) (k : KeepI n₀ zs zp B C) : KeepI n₀ zs zp A C := ⟨h.below.trans k.below, k.hs.trans h.hs, k.hp.trans h.hp⟩
theorem KeepI.of_below {n₀ zs zp n : Nat} {A B : World} (h0 : n₀ ≤ n) (h1 : zs < n) (h2 : zp < n) (h : Below n A B) : KeepI n₀ zs zp A B := ⟨h.mono h0, h.block zs h1, h.block zp h2⟩
theorem IterIn.later {w : World} {zs zp p : Nat} {s : ByteArray} {W W' : World} (h : IterIn w zs zp p s W) (hb : Below W.heap.size W W') : IterIn w zs zp p s W' where
  below := h.below.trans (hb.mono h.below.size)
  hs := (hb.block zs (Array.getElem?_eq_some_iff.1 h.hs).1).trans h.hs
  hp := (hb.block zp (Array.getElem?_eq_some_iff.1 h.hp).1).trans h.hp
theorem IterIn.keep {w : World} {zs zp p : Nat} {s : ByteArray} {W W' : World} (h : IterIn w zs zp p s W) (hk : KeepI w.heap.size zs zp W W') : IterIn w zs zp p s W' where
  below := h.below.trans hk.below
  hs := hk.hs.trans h.hs
  hp := hk.hp.trans h.hp
theorem IterIn.cs {w : World} {zs zp p : Nat} {s : ByteArray} {W : World} (h : IterIn w zs zp p s W) : W.cell? ⟨zs, 0, none⟩ = some (.string s) := by simp [World.cell?, h.hs]
theorem IterIn.cp {w : World} {zs zp p : Nat} {s : ByteArray} {W : World} (h : IterIn w zs zp p s W) : W.cell? ⟨zp, 0, none⟩ = some (.pointer (some ⟨p, 0, none⟩)) := by simp [World.cell?, h.hp]
abbrev YieldsAt (n : Nat) (l : Nat) (Kp : World → World → Prop) (N : Nat) (J Jx : List (Nat × Nat) → World → Prop) : Prop :=
  ∀ pre x W1, J pre W1 → pre.length < N → YieldAt .wide (n - 1) Tryz.prog l (encP x) W1 fun e W' => (e = .returned (.bool true) ∧ J (pre ++ [x]) W' ∧ Kp W1 W') ∨ (e = .returned (.bool false) ∧ Jx (pre ++ [x]) W')
theorem weakK {α : Type} {n g : Nat} {lb : Array Value} {encs : α → Array Value} {Kp Kp' : World → World → Prop} {S Sp : List α → Prop} {N : Nat} {w w' : World} (h : SeqStopsK .wide n Tryz.prog g lb encs Kp S Sp N w) (hb : Below w.heap.size w w') (hk : ∀ A B, Kp' A B → Kp A B) : SeqStopsK .wide n Tryz.prog g lb encs Kp' S Sp N w' :=
  fun l J Jx W hW hJ hJx hY h0 => h l J Jx W (hb.trans (hW.mono hb.size)) hJ hJx (fun pre x W1 hj hl => YieldAt.mono (hY pre x W1 hj hl) fun e w'' ho => ho.imp (fun ⟨a, b, c⟩ => ⟨a, b, hk _ _ c⟩) id) h0
/-- How an iterator over these pairs ends. -/
def IterOut (J Jx : List (Nat × Nat) → World → Prop) (L : List (Nat × Nat)) (e : Ending) (W' : World) : Prop := (∃ v, e = .returned v) ∧ ((∃ ys, ys = L ∧ J ys W') ∨ (∃ pre, pre <+: L ∧ Jx pre W'))
set_option maxHeartbeats 4000000 in
set_option maxRecDepth 100000 in
theorem all1_in (n : Nat) (hn : 1 ≤ n) (l zs zp p : Nat) (D : PD) (s : ByteArray) (hs : s.size ≤ 1048576) (w : World) (HP0 : PropsAt w.heap.size w p D) (HU0 : U8 w) (J Jx : List (Nat × Nat) → World → Prop)
    (W : World) (hW : IterIn w zs zp p s W) (hJ : AbidesFrom W.heap.size J) (hY : YieldsAt n l (KeepI w.heap.size zs zp) (cells D s.data.toList).length J Jx) (h0 : J [] W) :
    CallsIn .wide n Tryz.prog 39 #[.func (.yield l) #[] #[], .pointer (some ⟨zs, 0, none⟩), .pointer (some ⟨zp, 0, none⟩)] W fun e W' => IterOut J Jx (cells D s.data.toList) e W' := by
  have HP := Lib.hid HP0
  have HU := Lib.hid HU0
  have HY := Lib.hid hY
  have HJ := Lib.hid hJ
  have HS := Lib.hid (Lib.size_eq s)
  clear HP0 HU0 hY hJ
  refine callsIn_of_wp Tryz.func39 rfl trivial ?_ rfl
  simp only [Tryz.ntmps39, List.size_toArray, List.length_cons, List.length_nil, Nat.reduceAdd, Nat.reduceSub, Array.replicate_succ, Array.replicate_zero, List.push_toArray, List.append_toArray, List.nil_append, List.cons_append]
  gi_wp2
  gi_loopw [4] (fun f wr => ∃ k : Nat, f = .int .i64 (k : Int) ∧ k ≤ s.size ∧ Hid (edgeB D s.data.toList k = true ∧ J (pairs (upto D s.data.toList k)) wr) ∧ IterIn w zs zp p s wr) (fun f _ => s.size - (intOf f).toNat)
  case atStart => exact ⟨0, rfl, Nat.zero_le _, Lib.hid ⟨edge_zero _ _, by rw [upto_zero]; exact h0⟩, hW⟩
  case round =>
    obtain ⟨k, rfl, hk, hH, hB⟩ := hrel
    have cs := hB.cs
    have cp := hB.cp
    by_cases hlt : k < s.size
    · have hltz : (k : Int) < (s.size : Int) := by omega
      have HN := Lib.hid (next_calls p D s k hs (edge_bd (by rw [← HS.out]; exact hk) hH.out.1) hlt wr (HP.out.on hB.below) (HU.out.on hB.below))
      gi_wp2_with (refine ⟨trivial, ?_⟩; gi_at_call 40; (refine (callsIn_wide.2 HN.out).mono ?_); rintro e w1 ⟨nn, rfl, hN, hb⟩; have HX := Lib.hid hN; have HB1 := Lib.hid (hB.later hb); have HJ1 := Lib.hid (HJ.out _ wr w1 none hH.out.2 (grown_of_below hb) (fun r e => by cases e)); clear hN hb; obtain ⟨fn, tmps, assign, body, hy, hR⟩ := HY.out _ (k, nn) w1 HJ1.out (pre_short hH.out.1 HX.out); have HR := Lib.hid hR; clear hR; dsimp only [encP] at hy)
      refine HR.out.mono ?_
      rintro e W3 (⟨rfl, hJ3, hk3⟩ | ⟨rfl, hJx3⟩)
      · have HB3 := Lib.hid (HB1.out.keep hk3)
        have HJ3 := Lib.hid hJ3
        clear hJ3 hk3
        gi_wp2
        go_roundw
        case rel =>
          refine ⟨nn, rfl, by have := HX.out.2.1; rw [HS.out]; exact this, Lib.hid ⟨HX.out.2.2.1, ?_⟩, HB3.out⟩
          rw [cells_next hH.out.1 HX.out]
          exact HJ3.out
        case measure => have := HX.out.1; simp [intOf]; omega
      · have HJ3 := Lib.hid hJx3
        clear hJx3
        gi_wp2
        refine bodyPost_ret (results_none rfl _ _ _) rfl ?_
        refine ⟨⟨_, rfl⟩, .inr ⟨_, ?_, HJ3.out⟩⟩
        have h9 := pre_done (D := D) (l := s.data.toList) (k := nn) HX.out.2.1
        rwa [cells_next hH.out.1 HX.out] at h9
    · have hltz : ¬ (k : Int) < (s.size : Int) := by omega
      gi_wp2
      go_end0
      refine ⟨⟨_, rfl⟩, .inl ⟨_, rfl, ?_⟩⟩
      have h9 := hH.out.2
      rw [show k = s.data.toList.length by rw [← HS.out]; omega, upto_done] at h9
      exact h9
theorem all_stops (n : Nat) (hn : 1 ≤ n) (zs zp p : Nat) (D : PD) (s : ByteArray) (hs : s.size ≤ 1048576) (w : World) (HP : PropsAt w.heap.size w p D) (HU : U8 w) (W0 : World) (hI : IterIn w zs zp p s W0) :
    SeqStopsK .wide n Tryz.prog 39 #[.pointer (some ⟨zs, 0, none⟩), .pointer (some ⟨zp, 0, none⟩)] encP (KeepI w.heap.size zs zp) (fun ys => ys = cells D s.data.toList) (fun pre => pre <+: cells D s.data.toList) (cells D s.data.toList).length W0 :=
  fun l J Jx W hW hJ _ hY h0 => all1_in n hn l zs zp p D s hs w HP HU J Jx W (hI.later hW) hJ hY h0

/-! ### Back -/
theorem back_start (D : PD) (l : List UInt8) : (pairs (from_ D l l.length)).reverse = [] := by rw [from_len]; rfl
theorem back_done (D : PD) (l : List UInt8) (h : l ≠ []) : (pairs (from_ D l 0)).reverse = (cells D l).reverse := by rw [from_zero h]; rfl
theorem back_pre {D : PD} {l : List UInt8} {a : Nat} (h : a ≤ l.length) : (pairs (from_ D l a)).reverse <+: (cells D l).reverse := by
  cases l with
  | nil => obtain rfl : a = 0 := by simpa using h
           exact List.prefix_refl _
  | cons c l => exact back_prefix (by simp) h
theorem back_short {D : PD} {l : List UInt8} {a e : Nat} (ha : edgeB D l a = true) (h : Next D l a e) : (pairs (from_ D l e)).reverse.length < (cells D l).reverse.length := by
  have := (back_pre (D := D) (l := l) (a := a) (by have := h.1; have := h.2.1; omega)).length_le
  rw [back_next ha h, List.length_append, List.length_singleton] at this
  omega
/-- Between two steps backwards: where it stands. -/
structure BackI (D : PD) (l : List UInt8) (e k : Nat) : Prop where
  le : k ≤ e
  bd : Bd l k
  gap : ∀ y, k ≤ y → y < e → (y = k ∨ edgeB D l y = false)
theorem BackI.step {D : PD} {l : List UInt8} {e x : Nat} (h : BackI D l e (x + wid l x)) (hb : Bd l x) (hx : x < l.length) (he : x + wid l x = e ∨ edgeB D l (x + wid l x) = false) : BackI D l e x where
  le := by have := h.le; omega
  bd := hb
  gap := fun y h1 h2 => by
    by_cases h3 : y = x
    · exact .inl h3
    · refine .inr ?_
      by_cases h4 : y < x + wid l x
      · exact Cl.gap hb hx y (by omega) h4
      · by_cases h5 : y = x + wid l x
        · rcases he with he | he
          · omega
          · rw [h5]; exact he
        · rcases h.gap y (by omega) h2 with h6 | h6
          · omega
          · exact h6
theorem BackI.next {D : PD} {l : List UInt8} {e k : Nat} (h : BackI D l e k) (hk : k < e) (he : e ≤ l.length) (hE : edgeB D l e = true) : Next D l k e := by
  refine ⟨hk, he, hE, fun y h1 h2 => ?_⟩
  rcases h.gap y (by omega) h2 with h3 | h3
  · omega
  · exact h3
set_option maxHeartbeats 8000000 in
set_option maxRecDepth 100000 in
theorem back1_in (n : Nat) (hn : 1 ≤ n) (l zs zp p : Nat) (D : PD) (s : ByteArray) (hs : s.size ≤ 1048576) (w : World) (HP0 : PropsAt w.heap.size w p D) (HU0 : U8 w) (J Jx : List (Nat × Nat) → World → Prop)
    (W : World) (hW : IterIn w zs zp p s W) (hJ : AbidesFrom W.heap.size J) (hY : YieldsAt n l (KeepI w.heap.size zs zp) (cells D s.data.toList).reverse.length J Jx) (h0 : J [] W) :
    CallsIn .wide n Tryz.prog 41 #[.func (.yield l) #[] #[], .pointer (some ⟨zs, 0, none⟩), .pointer (some ⟨zp, 0, none⟩)] W fun e W' => IterOut J Jx (cells D s.data.toList).reverse e W' := by
  have HP := Lib.hid HP0
  have HU := Lib.hid HU0
  have HY := Lib.hid hY
  have HJ := Lib.hid hJ
  have HS := Lib.hid (Lib.size_eq s)
  have cs0 := hW.cs
  clear HP0 HU0 hY hJ
  refine callsIn_of_wp Tryz.func41 rfl trivial ?_ rfl
  simp only [Tryz.ntmps41, List.size_toArray, List.length_cons, List.length_nil, Nat.reduceAdd, Nat.reduceSub, Array.replicate_succ, Array.replicate_zero, List.push_toArray, List.append_toArray, List.nil_append, List.cons_append]
  gi_wp2
  gi_loopw [4] (fun f wr => ∃ k : Nat, f = .int .i64 (k : Int) ∧ k ≤ s.size ∧ Hid (edgeB D s.data.toList k = true ∧ J (pairs (from_ D s.data.toList k)).reverse wr) ∧ IterIn w zs zp p s wr) (fun f _ => (intOf f).toNat)
  case atStart => exact ⟨s.size, rfl, Nat.le_refl _, Lib.hid ⟨by rw [HS.out]; exact edge_len _ _, by rw [HS.out, back_start]; exact h0⟩, hW⟩
  case round =>
    obtain ⟨e0, rfl, he0, hH, hB⟩ := hrel
    clear cs0
    by_cases hpos : 0 < e0
    · have hposz : (0 : Int) < (e0 : Int) := by omega
      have HBo := Lib.hid hB
      obtain ⟨wo, rfl⟩ : ∃ wo : World, wo = wr := ⟨_, rfl⟩
      gi_wp2
      gi_loopw [5] (fun f wr => ∃ k : Nat, f = .int .i64 (k : Int) ∧ k ≤ e0 ∧ Hid (BackI D s.data.toList e0 k) ∧ Below wo.heap.size wo wr) (fun f _ => (intOf f).toNat)
      case atStart => exact ⟨e0, rfl, Nat.le_refl _, Lib.hid ⟨Nat.le_refl _, edge_bd (by rw [← HS.out]; exact he0) hH.out.1, fun y h1 h2 => by omega⟩, Below.refl _ _⟩
      case round =>
        obtain ⟨k, rfl, hk, hBI, hB2⟩ := hrel
        have HB2 := Lib.hid (hB.later hB2)
        have cs := HB2.out.cs
        have cp := HB2.out.cp
        by_cases hk0 : 0 < k
        · have hk0z : (0 : Int) < (k : Int) := by omega
          have hks : (k : Int) ≤ (s.size : Int) := by omega
          obtain ⟨x, hbx, hxl, hxk⟩ := hBI.out.bd.prev hk0
          have HX := Lib.hid (And.intro hbx (And.intro hxl hxk))
          have HL : Hid (∀ W', Below w.heap.size w W' → ∃ r : Int, Calls Tryz.prog 42 #[.string (s.extract 0 k)] W' fun e w' => e = .returned (.tuple #[.int .i32 r, .int .i64 ((wid s.data.toList x : Nat) : Int)]) ∧ Below W'.heap.size W' w') := Lib.hid fun W' h => ⟨_, by
            have := last_at s k W' hs (by omega) (HU.out.on h)
            rw [← hxk, back_same hbx hxl] at this
            rw [hxk] at this
            exact this⟩
          have hwx : wid s.data.toList x = k - x := by omega
          rw [hwx] at HL
          have hxk2 : x < k := by have := wid_pos s.data.toList x; omega
          have hsub : ((k - x : Nat) : Int) = (k : Int) - (x : Int) := by omega
          rw [hsub] at HL
          clear hbx hxl hxk hwx hsub
          by_cases hke : k = e0
          · have hbe : ((k : Int) == (e0 : Int)) = true := beq_iff_eq.2 (by omega)
            obtain ⟨r, hLr⟩ := HL.out wr HB2.out.below
            have HLr := Lib.hid hLr
            have HKE := Lib.hid hke
            clear hke hLr HL
            gi_wp2
            all_goals (try (rename_i h _; exact absurd (Option.some.inj h) (by simp [undef]; done)))
            refine ⟨trivial, ?_⟩
            gi_wp2_with (refine ⟨trivial, ?_⟩; gi_at_call 42; (refine (callsIn_wide.2 HLr.out).mono ?_); rintro e w3 ⟨rfl, hb⟩)
            go_roundw
            case rel =>
              refine ⟨x, by go_num, by omega, Lib.hid ?_, hB2.trans (hb.mono hB2.size)⟩
              have h9 := HX.out
              exact BackI.step (by rw [h9.2.2]; exact hBI.out) h9.1 h9.2.1 (.inl (by rw [h9.2.2]; exact HKE.out))
            case measure => simp [intOf]; omega
          · have hbe : ((k : Int) == (e0 : Int)) = false := beq_eq_false_iff_ne.2 (by omega)
            have hklt : k < e0 := by omega
            have HJC := Lib.hid (joined_calls p D s k hs (by omega) wr (HP.out.on HB2.out.below) (HU.out.on HB2.out.below))
            have HE := Lib.hid (edge_unit (D := D) hBI.out.bd (by rw [← HS.out]; omega) hk0)
            clear hke
            generalize jo D s.data.toList k = j at *
            cases j
            · -- an edge
              have HN : Hid (Next D s.data.toList k e0) := Lib.hid (hBI.out.next hklt (by rw [← HS.out]; exact he0) hH.out.1)
              clear HL
              gi_wp2_with (refine ⟨trivial, ?_⟩; gi_at_call 26; (refine (callsIn_wide.2 HJC.out).mono ?_); rintro e w3 ⟨rfl, hb⟩; have HB3 := Lib.hid (HB2.out.later hb); have HJ1 := Lib.hid (HJ.out _ wr w3 none (HJ.out _ wo wr none hH.out.2 (grown_of_below hB2) (fun r e => by cases e)) (grown_of_below hb) (fun r e => by cases e)); obtain ⟨fn, tmps, assign, body, hy, hR⟩ := HY.out _ (k, e0) w3 HJ1.out (back_short HE.out HN.out); have HR := Lib.hid hR; clear hR; dsimp only [encP] at hy)
              refine HR.out.mono ?_
              rintro e W3 (⟨rfl, hJ3, hk3⟩ | ⟨rfl, hJx3⟩)
              · have HB4 := Lib.hid (HB3.out.keep hk3)
                have HJ3 := Lib.hid hJ3
                clear hJ3 hk3
                gi_wp2
                go_roundw
                case rel =>
                  refine ⟨k, rfl, by omega, Lib.hid ⟨HE.out, ?_⟩, HB4.out⟩
                  rw [back_next HE.out HN.out]
                  exact HJ3.out
                case measure => simp [intOf]; omega
              · have HJ3 := Lib.hid hJx3
                clear hJx3
                gi_wp2
                refine bodyPost_ret (results_none rfl _ _ _) rfl ?_
                refine ⟨⟨_, rfl⟩, .inr ⟨_, ?_, HJ3.out⟩⟩
                have h9 := back_pre (D := D) (l := s.data.toList) (a := k) (by rw [← HS.out]; omega)
                rwa [back_next HE.out HN.out] at h9
            · have HL2 : Hid (∀ w3, Below w.heap.size w w3 → ∃ r : Int, Calls Tryz.prog 42 #[.string (s.extract 0 k)] w3 fun e w' => e = .returned (.tuple #[.int .i32 r, .int .i64 ((k : Int) - (x : Int))]) ∧ Below w3.heap.size w3 w') := HL
              clear HL
              gi_wp2_with (first
                | (refine ⟨trivial, ?_⟩; gi_at_call 26; (refine (callsIn_wide.2 HJC.out).mono ?_); rintro e w3 ⟨rfl, hb⟩; have HB3 := Lib.hid (HB2.out.later hb); obtain ⟨r, hLr⟩ := HL2.out w3 HB3.out.below; have HLr := Lib.hid hLr; clear hLr; have cs3 := HB3.out.cs)
                | (refine ⟨trivial, ?_⟩; gi_at_call 42; (refine (callsIn_wide.2 HLr.out).mono ?_); rintro e w4 ⟨rfl, hb4⟩))
              go_roundw
              case rel =>
                refine ⟨x, by go_num, by omega, Lib.hid ?_, (hB2.trans (hb.mono hB2.size)).trans (hb4.mono (hB2.trans (hb.mono hB2.size)).size)⟩
                have h9 := HX.out
                exact BackI.step (by rw [h9.2.2]; exact hBI.out) h9.1 h9.2.1 (.inr (by rw [h9.2.2]; exact HE.out))
              case measure => simp [intOf]; omega
        · -- the text's beginning
          have hkz : k = 0 := by omega
          subst hkz
          have hbe : (((0 : Nat) : Int) == (e0 : Int)) = false := beq_eq_false_iff_ne.2 (by omega)
          have hbe' : ((0 : Int) == (e0 : Int)) = false := beq_eq_false_iff_ne.2 (by omega)
          have HN : Hid (Next D s.data.toList 0 e0) := Lib.hid (hBI.out.next hpos (by rw [← HS.out]; exact he0) hH.out.1)
          have HJ1 := Lib.hid (HJ.out _ wo wr none hH.out.2 (grown_of_below hB2) (fun r e => by cases e))
          have HE := Lib.hid (edge_zero D s.data.toList)
          obtain ⟨fn, tmps, assign, body, hy, hR⟩ := HY.out _ (0, e0) wr HJ1.out (back_short HE.out HN.out)
          have HR := Lib.hid hR
          clear hR
          simp only [encP, show ((0 : Nat) : Int) = 0 from rfl] at hy
          gi_wp2
          refine ⟨trivial, ?_⟩
          gi_wp2
          refine HR.out.mono ?_
          rintro e W3 (⟨rfl, hJ3, hk3⟩ | ⟨rfl, hJx3⟩)
          · have HB4 := Lib.hid (HB2.out.keep hk3)
            have HJ3 := Lib.hid hJ3
            clear hJ3 hk3
            gi_wp2
            go_roundw
            case rel =>
              refine ⟨0, rfl, by omega, Lib.hid ⟨HE.out, ?_⟩, HB4.out⟩
              rw [back_next HE.out HN.out]
              exact HJ3.out
            case measure => simp [intOf]; omega
          · have HJ3 := Lib.hid hJx3
            clear hJx3
            gi_wp2
            refine bodyPost_ret (results_none rfl _ _ _) rfl ?_
            refine ⟨⟨_, rfl⟩, .inr ⟨_, ?_, HJ3.out⟩⟩
            have h9 := back_pre (D := D) (l := s.data.toList) (a := 0) (by omega)
            rwa [back_next HE.out HN.out] at h9
    · have he : e0 = 0 := by omega
      subst he
      gi_wp2
      go_end0
      refine ⟨⟨_, rfl⟩, .inl ⟨_, rfl, ?_⟩⟩
      have h9 := hH.out.2
      by_cases hl : s.data.toList = []
      · rw [hl] at h9 ⊢; exact h9
      · rwa [back_done _ _ hl] at h9
theorem back_stops (n : Nat) (hn : 1 ≤ n) (zs zp p : Nat) (D : PD) (s : ByteArray) (hs : s.size ≤ 1048576) (w : World) (HP : PropsAt w.heap.size w p D) (HU : U8 w) (W0 : World) (hI : IterIn w zs zp p s W0) :
    SeqStopsK .wide n Tryz.prog 41 #[.pointer (some ⟨zs, 0, none⟩), .pointer (some ⟨zp, 0, none⟩)] encP (KeepI w.heap.size zs zp) (fun ys => ys = (cells D s.data.toList).reverse) (fun pre => pre <+: (cells D s.data.toList).reverse) (cells D s.data.toList).reverse.length W0 :=
  fun l J Jx W hW hJ _ hY h0 => back1_in n hn l zs zp p D s hs w HP HU J Jx W (hI.later hW) hJ hY h0

/-! ### All, Back -/
theorem All_calls (p : Nat) (s : ByteArray) (W : World) : Calls Tryz.prog 13 #[.pointer (some ⟨p, 0, none⟩), .string s] W fun e w' =>
    e = .returned (.func (.func 39) #[] #[.pointer (some ⟨W.heap.size + 1, 0, none⟩), .pointer (some ⟨W.heap.size, 0, none⟩)]) ∧ w' = (W.alloc (.cells #[.pointer (some ⟨p, 0, none⟩)] 22)).alloc (.cells #[.string s] 9) := by
  go_enter Tryz.func13, Tryz.ntmps13
  go_wp2
  go_ret
  exact ⟨rfl, rfl⟩
theorem Back_calls (p : Nat) (s : ByteArray) (W : World) : Calls Tryz.prog 14 #[.pointer (some ⟨p, 0, none⟩), .string s] W fun e w' =>
    e = .returned (.func (.func 41) #[] #[.pointer (some ⟨W.heap.size + 1, 0, none⟩), .pointer (some ⟨W.heap.size, 0, none⟩)]) ∧ w' = (W.alloc (.cells #[.pointer (some ⟨p, 0, none⟩)] 22)).alloc (.cells #[.string s] 9) := by
  go_enter Tryz.func14, Tryz.ntmps14
  go_wp2
  go_ret
  exact ⟨rfl, rfl⟩
/-- The world behind All or Back, called at W. -/
abbrev iterW (W : World) (p : Nat) (s : ByteArray) : World := (W.alloc (.cells #[.pointer (some ⟨p, 0, none⟩)] 22)).alloc (.cells #[.string s] 9)
theorem iter_below (W : World) (p : Nat) (s : ByteArray) : Below W.heap.size W (iterW W p s) := ((Below.refl _ W).alloc (Nat.le_refl _) _).alloc (by simp) _
theorem iter_new (w : World) {W : World} {p : Nat} {s : ByteArray} (hb : Below w.heap.size w W) : IterIn w (W.heap.size + 1) W.heap.size p s (iterW W p s) where
  below := hb.trans ((iter_below W p s).mono hb.size)
  hs := by
    have := World.alloc_heap_new (W.alloc (.cells #[.pointer (some ⟨p, 0, none⟩)] 22)) (.cells #[.string s] 9)
    rwa [World.size_alloc] at this
  hp := (Below.heap_alloc _ _ _ (by simp)).trans (World.alloc_heap_new W _)
end Go.Proofs.YtfmcadobpgpajaaGreatDoor.Cl
