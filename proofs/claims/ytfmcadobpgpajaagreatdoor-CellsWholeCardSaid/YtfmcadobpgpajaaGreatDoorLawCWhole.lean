/- The law CellsWhole: the walk. -/
import Derived.Test.YtfmcadobpgpajaaGreatDoorLawCAll
import Derived.Test.YtfmcadobpgpajaaGreatDoorRefEndWalk
import Derived.Test.YtfmcadobpgpajaaGreatDoorCellWhole
namespace Go.Proofs.YtfmcadobpgpajaaGreatDoor.Cl
open Go Go.RowKit Go.Shelf Go.Proofs.YtfmcadobpgpajaaGreatDoor.Sp Go.Proofs.YtfmcadobpgpajaaGreatDoor.Ut Go.Proofs.YtfmcadobpgpajaaGreatDoor.Pr Go.Proofs.YtfmcadobpgpajaaGreatDoor.Rf Go.Proofs.YtfmcadobpgpajaaGreatDoor.Ru
set_option linter.unusedSimpArgs false
set_option linter.unusedVariables false

theorem ks_open {X : Nat} {W : World} {ks : List Bool} (h : KS X W ks) (i : Nat) : W.frozen? ⟨X, i, none⟩ = false := by
  unfold KS at h
  simp [World.frozen?, h]
theorem rep_get (n : Nat) : (List.replicate (n + 1) false)[n]? = some false := by rw [List.getElem?_replicate, if_pos (by omega)]
theorem ks_cell {X : Nat} {W : World} {ks : List Bool} (h : KS X W ks) {i : Nat} {b : Bool} (hi : ks[i]? = some b) : W.cell? ⟨X, i, none⟩ = some (.bool b) := KS.«at» h hi
theorem set_other {W : World} {X i t : Nat} {v : Value} (h : t < W.heap.size) (hne : t ≠ X) : (W.setCell ⟨X, i, none⟩ v).heap[t]? = W.heap[t]? := (setCell_grown W ⟨X, i, none⟩ v).block t h (fun e => hne (by cases e; rfl))
/-- The two rows of Booleans. -/
structure TwoB (X Y : Nat) (w1 W : World) (es us : List Bool) : Prop where
  low : Below w1.heap.size w1 W
  e : KS X W es
  u : KS Y W us
theorem TwoB.later {X Y n : Nat} {w1 W W' : World} {es us : List Bool} (h : TwoB X Y w1 W es us) (hb : Below n W W') (hX : X < n) (hY : Y < n) (h1 : w1.heap.size ≤ n) : TwoB X Y w1 W' es us :=
  ⟨h.low.trans (hb.mono h1), (hb.block X hX).trans h.e, (hb.block Y hY).trans h.u⟩
theorem TwoB.setU {X Y : Nat} {w1 W : World} {es us : List Bool} (h : TwoB X Y w1 W es us) (hXY : X ≠ Y) (hY : w1.heap.size ≤ Y) (i : Nat) (b : Bool) : TwoB X Y w1 (W.setCell ⟨Y, i, none⟩ (.bool b)) es (us.set i b) :=
  ⟨h.low.setCell (p := ⟨Y, i, none⟩) hY _, ((setCell_grown W ⟨Y, i, none⟩ (.bool b)).block X (lt_of_block h.e) (fun e => hXY (by cases e; rfl))).trans h.e, h.u.set i b⟩
/-- In the loop that writes the edges. -/
structure EdI (X : Nat) (w1 w5 W : World) (es : List Bool) : Prop where
  low : Below w1.heap.size w1 W
  e : KS X W es
  keep : ∀ t, t < w5.heap.size → t ≠ X → W.heap[t]? = w5.heap[t]?
  size : w5.heap.size ≤ W.heap.size
theorem EdI.set {X : Nat} {w1 w5 W : World} {es : List Bool} (h : EdI X w1 w5 W es) (hX : w1.heap.size ≤ X) (i : Nat) (b : Bool) : EdI X w1 w5 (W.setCell ⟨X, i, none⟩ (.bool b)) (es.set i b) :=
  ⟨h.low.setCell (p := ⟨X, i, none⟩) hX _, h.e.set i b, fun t ht hne => ((setCell_grown W ⟨X, i, none⟩ (.bool b)).block t (Nat.lt_of_lt_of_le ht h.size) (fun e => hne (by cases e; rfl))).trans (h.keep t ht hne), Nat.le_trans h.size (setCell_grown W ⟨X, i, none⟩ (.bool b)).size⟩
theorem ks_not {X : Nat} {W : World} {ks : List Bool} (h : KS X W ks) {i : Nat} {z : Int} : W.cell? ⟨X, i, none⟩ ≠ some (.int .i64 z) := by
  intro e
  unfold KS at h
  rw [cell_of_row W X i _ _ (0, 0) h] at e
  simp only [List.getElem?_toArray, List.getElem?_map, Option.map_eq_some_iff] at e
  obtain ⟨b, _, e⟩ := e
  cases e
theorem readP_keep {X : Nat} {w5 W : World} {v : Value} {l : List (Nat × Nat)} {es : List Bool} (h : ReadPairs w5 v l) (hk : KS X w5 es) (hw : ∀ t, t < w5.heap.size → t ≠ X → W.heap[t]? = w5.heap[t]?) : ReadPairs W v l := by
  refine ⟨h.len, ?_⟩
  rcases h.at_ with h | ⟨b, off, c, e, hc⟩
  · exact .inl h
  · refine .inr ⟨b, off, c, e, fun i x hi => ?_⟩
    obtain ⟨c1, c2⟩ := hc i x hi
    have hb : b ≠ X := fun e => by subst e; exact ks_not hk c1
    have hlt : b < w5.heap.size := World.block_lt_of_cell? _ _ c1
    exact ⟨(World.cell?_of_block (a := ⟨b, off + i * 2, none⟩) (hw b hlt hb)).trans c1, (World.cell?_of_block (a := ⟨b, off + i * 2 + 1, none⟩) (hw b hlt hb)).trans c2⟩
theorem cwhole_none (f s : ByteArray) (w : World) (hB : NoneAt f w) (hW : WorksAt w) : Calls Tryz.prog 6 #[.string f, .string s] w fun e w' => e = .returned (.bool true) ∧ Below w.heap.size w w' := by
  have HB := Lib.hid hB
  have HW := Lib.hid hW
  clear hB hW
  go_enter Tryz.func6, Tryz.ntmps6
  go_wp2_with (first
    | (go_at_call 8; (with_reducible refine HB.out.mono ?_); rintro e w1 ⟨rfl, hb⟩)
    | (go_at_call 9; (with_reducible refine (HW.out _ hb).mono ?_); rintro e w2 ⟨rfl, hb2⟩))
  go_ret
  exact ⟨rfl, below_then' hb hb2⟩
theorem cwhole_long (f s : ByteArray) (D : PD) (w : World) (hB : SomeAt f D w) (hW : WorksAt w) (h1 : (4096 : Int) < s.size) : Calls Tryz.prog 6 #[.string f, .string s] w fun e w' => e = .returned (.bool true) ∧ Below w.heap.size w w' := by
  have HB := Lib.hid hB
  have HW := Lib.hid hW
  clear hB hW
  go_enter Tryz.func6, Tryz.ntmps6
  go_wp2_with (first
    | (go_at_call 8; (with_reducible refine HB.out.mono ?_); rintro e w1 ⟨p, q, st, rfl, -, -, -, hb⟩)
    | (go_at_call 9; (with_reducible refine (HW.out _ hb).mono ?_); rintro e w2 ⟨rfl, hb2⟩))
  go_ret
  exact ⟨rfl, below_then' hb hb2⟩
set_option maxHeartbeats 8000000 in
set_option maxRecDepth 100000 in
theorem cwhole_main (f s : ByteArray) (D : PD) (w : World) (hB : SomeAt f D w) (hW : WorksAt w) (hU : U8 w) (h1 : (s.size : Int) ≤ 4096) : Calls Tryz.prog 6 #[.string f, .string s] w fun e w' => e = .returned (.bool true) ∧ Below w.heap.size w w' := by
  have HB := Lib.hid hB
  have HW := Lib.hid hW
  have HU := Lib.hid hU
  have hsz : s.size ≤ 1048576 := by omega
  have d1 : decide ((4096 : Int) < (s.size : Int)) = false := decide_eq_false (by omega)
  have HZ := Lib.hid hsz
  have j0 : (0 : Int) ≤ (s.size : Int) + 1 := by omega
  clear hB hW hU hsz
  go_enter Tryz.func6, Tryz.ntmps6
  obtain ⟨ii, hi0, hz0, hz1, hz2⟩ := info_parts infoBool
  go_wp2_with (first
    | (go_at_call 8; (with_reducible refine HB.out.mono ?_); rintro e w1 ⟨p, q, st, rfl, hp, hr, rfl, hb⟩; have HP := Lib.hid hp; have HR := Lib.hid hr; have HB1 := Lib.hid hb; clear hp hr hb)
    | (at_make; (refine wpList_make_full w1 rfl _ _ _ rfl w1.heap.size 4 ii _ 1 Tryz.underlying45 hi0 hz0 hz1 _ _ _ _ (s.size + 1) rfl rfl rfl rfl (by rw [hz2]; omega) (by simp only [maxLen]; omega) (Nat.le_refl _) ?_; intro w2 ho2 hg2; have KE := Lib.hid (made_KS ho2); have HG2 := Lib.hid hg2; clear ho2 hg2))
    | (at_make; (refine wpList_make_full w2 rfl _ _ _ rfl w2.heap.size 4 ii _ 1 Tryz.underlying45 hi0 hz0 hz1 _ _ _ _ (s.size + 1) rfl rfl rfl rfl (by rw [hz2]; omega) (by simp only [maxLen]; omega) (Nat.le_refl _) ?_; intro w3 ho3 hg3; have hku := made_KS ho3; have ku0 := rep_get s.size; have kc := ks_cell hku ku0; have kf := ks_open hku s.size; have KU := Lib.hid hku; have HG3 := Lib.hid hg3; clear ho3 hg3 hku ku0)))
  have hsz2 : w1.heap.size ≤ w2.heap.size := HG2.out.size
  have hsz3 : w2.heap.size ≤ w3.heap.size := HG3.out.size
  have hX2 : w1.heap.size < w2.heap.size := lt_of_block KE.out
  have hY3 : w2.heap.size < w3.heap.size := lt_of_block KU.out
  have HT0 : Hid (TwoB w1.heap.size w2.heap.size w1 (w3.setCell ⟨w2.heap.size, s.size, none⟩ (.bool true)) (List.replicate (s.size + 1) false) ((List.replicate (s.size + 1) false).set s.size true)) := Lib.hid
    (TwoB.setU ⟨((Below.refl _ w1).grown HG2.out (Nat.le_refl _) (fun k e => by cases e)).trans (((Below.refl _ w2).grown HG3.out (Nat.le_refl _) (fun k e => by cases e)).mono hsz2), (HG3.out.block _ hX2 (fun e => by cases e)).trans KE.out, KU.out⟩ (by omega) hsz2 _ _)
  have HBR0 : Hid (BR ((List.replicate (s.size + 1) false).set s.size true) s.size (UB s.data.toList 0)) := Lib.hid ((BR.none s.size (P := fun _ => False) (fun _ h => h)).set (fun j => by rw [UB.zero, ← Lib.size_eq]; simp))
  have HBE0 : Hid (BR (List.replicate (s.size + 1) false) s.size (EdB st.d s.data.toList 0)) := Lib.hid (BR.none _ (EdB.none _ _))
  generalize (List.replicate (s.size + 1) false).set s.size true = us0 at *
  generalize List.replicate (s.size + 1) false = es0 at *
  have hz3 : (w3.setCell ⟨w2.heap.size, s.size, none⟩ (.bool true)).heap.size = w3.heap.size := by simp
  obtain ⟨w4, hw4⟩ : ∃ w4, w3.setCell ⟨w2.heap.size, s.size, none⟩ (.bool true) = w4 := ⟨_, rfl⟩
  rw [hw4] at HT0 hz3 ⊢
  rw [← hz3]
  have hX4 : w1.heap.size < w4.heap.size := by omega
  have hY4 : w2.heap.size < w4.heap.size := by omega
  have HSZ : Hid (w1.heap.size < w2.heap.size ∧ w2.heap.size < w4.heap.size) := Lib.hid ⟨hX2, by omega⟩
  clear hw4 hz3 hsz2 hsz3 hX2 hY3 KE HG2 kc kf KU HG3 j0
  go_loopg [10] s.size (fun gk v wx => ∃ (pos : Nat) (us : List Bool), Hid (Bd s.data.toList pos) ∧ pos ≤ s.size ∧ s.size ≤ pos + gk ∧ wx.heap[w4.heap.size]? = some (.stringIter s pos) ∧ Hid (TwoB w1.heap.size w2.heap.size w1 wx es0 us) ∧ Hid (BR us s.size (UB s.data.toList pos)))
  case atStart => exact ⟨0, us0, Lib.hid .zero, Nat.zero_le _, by omega, World.iter_heap w4 s 0, Lib.hid (HT0.out.later ((Below.refl _ w4).alloc (Nat.le_refl _) _) hX4 hY4 (by omega)), HBR0⟩
  case round =>
    obtain ⟨pos, us, hbd, hps, hfu, hit, HT, HBR⟩ := hrel
    by_cases hlt : pos < s.size
    · obtain ⟨g', rfl⟩ : ∃ g', gk = g' + 1 := ⟨gk - 1, by omega⟩
      have hnx : ∀ ty, (Instr.next (.pointer (some ⟨w4.heap.size, 0, none⟩)) true ty).run Tryz.prog wr = _ := fun ty => Lib.run_next_any_at wr w4.heap.size s pos ty hit hlt
      have hwl := wid_le (l := s.data.toList) (x := pos) (by rw [← Lib.size_eq]; exact hlt)
      rw [← Lib.size_eq] at hwl
      have hwp := wid_pos s.data.toList pos
      have HN := Lib.hid (Bd.step hbd.out (by rw [← Lib.size_eq]; exact hlt))
      have HUB := Lib.hid (UB.step hbd.out (by rw [← Lib.size_eq]; exact hlt))
      obtain ⟨r, hr⟩ : ∃ r : Int, (((Utf8.decode s pos).1 : Nat) : Int) = r := ⟨_, rfl⟩
      rw [decode_wid, hr] at hnx
      clear hr
      generalize wid s.data.toList pos = K at *
      have hit2 := Lib.iterAt_heap wr w4.heap.size s pos (pos + K) hit
      have HT2 := Lib.hid (HT.out.later (Lib.below_iterAt (Below.refl w4.heap.size wr) (k := w4.heap.size) (Nat.le_refl _) s (pos + K)) hX4 hY4 (by omega))
      obtain ⟨W, hWd⟩ : ∃ W, wr.iterAt w4.heap.size s (pos + K) = W := ⟨_, rfl⟩
      rw [hWd] at hnx hit2 HT2
      obtain ⟨b, hb, _⟩ := HBR.out.get (j := pos) (by omega)
      have kc := HT2.out.u.at hb
      have kf := ks_open HT2.out.u pos
      have HIT := Lib.hid hit2
      have hpz : (pos : Int) < (s.size : Int) + 1 := by omega
      have hp0 : (0 : Int) ≤ (pos : Int) := by omega
      clear hit hWd hit2 hb
      go_wp2
      go_roundg g'
      case rel => exact ⟨pos + K, us.set pos true, HN, by omega, by omega, (set_other (lt_of_block HIT.out) (by have := HSZ.out; omega)).trans HIT.out, Lib.hid (HT2.out.setU (by have := HSZ.out; omega) (by have := HSZ.out; omega) _ _), Lib.hid (HBR.out.set HUB.out)⟩
      case measure => omega
    · have hnx : ∀ ty, (Instr.next (.pointer (some ⟨w4.heap.size, 0, none⟩)) true ty).run Tryz.prog wr = _ := fun ty => Lib.run_next_end_at wr w4.heap.size s pos ty hit hlt
      have hpe : pos = s.size := by omega
      subst hpe
      have HUN : Hid (BR us s.size (Bd s.data.toList)) := Lib.hid (HBR.out.to (fun j => by
        rw [Lib.size_eq]
        exact ⟨fun h => UB.done (Nat.le_refl _) h.le h, fun h => h.elim (fun e => by rw [e]; exact Bd.full _) (fun h => h.1)⟩))
      have HG := Lib.hid (gives_all HP.out (HU.out.on HB1.out) HT.out.low s HZ.out)
      have hL : (cells st.d s.data.toList).length ≤ 1048576 := Nat.le_trans (cells_length _ _) (by rw [← Lib.size_eq]; exact HZ.out)
      have HGA := Lib.hid (gatherT hL HG.out _ (Below.refl _ _))
      have HST : Hid (∀ i x, (cells st.d s.data.toList)[i]? = some x → x.1 = atOf st.d s.data.toList i ∧ x.2 = atOf st.d s.data.toList (i + 1) ∧ x.1 < x.2 ∧ x.2 ≤ s.size ∧ Bd s.data.toList x.1) := Lib.hid (fun i x h => by rw [Lib.size_eq]; exact whole_step h)
      have HES : Hid (∀ i x, (cells st.d s.data.toList)[i]? = some x → ∀ j, EdB st.d s.data.toList (i + 1) j ↔ (EdB st.d s.data.toList i j ∨ j = x.1) ∨ j = x.2) := Lib.hid (fun i x h j => EdB.step h j)
      have HEN : Hid (atOf st.d s.data.toList (cells st.d s.data.toList).length = s.size) := Lib.hid (by rw [whole_end, Lib.size_eq])
      have HAZ := Lib.hid (at_zero st.d s.data.toList)
      have HED : Hid (∀ j : Nat, j ≤ s.size → (EdB st.d s.data.toList (cells st.d s.data.toList).length j ↔ edgeAt st.d s.data.toList (j : Int) = true)) := Lib.hid (fun j hj => EdB.done (by rw [← Lib.size_eq]; exact hj))
      have HCN := Lib.hid (countCall HP.out (HU.out.on HB1.out) HZ.out (k := (cells st.d s.data.toList).length) rfl)
      have HIB := Lib.hid (iter_below wr p s)
      generalize hLd : cells st.d s.data.toList = L at HG hL HGA HST HES HEN HED HCN
      generalize atOf st.d s.data.toList = atf at HST HEN HAZ
      go_wp2_with (first
        | (go_at_call 13; (refine (All_calls p s _).mono ?_); rintro e w5 ⟨rfl, hw5⟩; subst w5)
        | (go_at_call 16; (refine HGA.out.mono ?_); rintro e w6 ⟨A6, c6, rfl, r, hb⟩; have R6 := Lib.hid r; have HB6 := Lib.hid (below_then' HIB.out hb); clear r hb))
      have hwl := HT.out.low.size
      have HT6 : Hid (TwoB w1.heap.size w2.heap.size w1 w6 es0 us) := Lib.hid (HT.out.later HB6.out (lt_of_block HT.out.e) (lt_of_block HT.out.u) hwl)
      have HRC : Hid (∀ (i : Nat) (x : Nat × Nat), L[i]? = some x → ∃ b off, A6 = some ⟨b, off, none⟩ ∧ w6.cell? ⟨b, off + i * 2, none⟩ = some (.int .i64 (x.1 : Int)) ∧ w6.cell? ⟨b, off + i * 2 + 1, none⟩ = some (.int .i64 (x.2 : Int)) ∧ b ≠ w1.heap.size ∧ b < w6.heap.size) := Lib.hid (fun i x hx => by
        rcases R6.out.at_ with ⟨e, _⟩ | ⟨b, off, c, e, hc⟩
        · rw [e] at hx; cases hx
        · injection e with e1 _ _
          obtain ⟨k1, k2⟩ := hc i x hx
          exact ⟨b, off, e1, k1, k2, fun e => by subst e; exact ks_not HT6.out.e k1, World.block_lt_of_cell? _ _ k1⟩)
      clear hwl hit hnx hlt hps hfu
      go_loopw [11, 13] (fun vat vi wx => ∃ (i : Nat) (es : List Bool), vat = .int .i64 (atf i : Nat) ∧ vi = .int .i64 (i : Nat) ∧ i ≤ L.length ∧ Hid (EdI w1.heap.size w1 w6 wx es) ∧ Hid (BR es s.size (EdB st.d s.data.toList i))) (fun _ vi _ => L.length - (intOf vi).toNat)
      case atStart => exact ⟨0, es0, by rw [HAZ.out]; rfl, rfl, Nat.zero_le _, Lib.hid ⟨HT6.out.low, HT6.out.e, fun _ _ _ => rfl, Nat.le_refl _⟩, HBE0⟩
      case round =>
        obtain ⟨i, es, rfl, rfl, hi, HE, HBE⟩ := hrel
        rename World => W
        by_cases hlt : i < L.length
        · obtain ⟨⟨x1, x2⟩, hx⟩ : ∃ x, L[i]? = some x := ⟨_, List.getElem?_eq_getElem hlt⟩
          obtain ⟨e1, e2, l1, l2, hbd1⟩ := HST.out i _ hx
          simp only at e1 e2 l1 l2 hbd1
          obtain ⟨b, off, rfl, c1, c2, hbX, hbl⟩ := HRC.out i _ hx
          simp only at c1 c2
          have HEQ := Lib.hid (HES.out i _ hx)
          have HE1 := Lib.hid e1
          have HE2 := Lib.hid e2
          rw [← e1]
          have k1 := (World.cell?_of_block (a := ⟨b, off + i * 2, none⟩) (HE.out.keep b hbl hbX)).trans c1
          have k2 := (World.cell?_of_block (a := ⟨b, off + i * 2 + 1, none⟩) (HE.out.keep b hbl hbX)).trans c2
          obtain ⟨bu, hbu, hiff⟩ := HUN.out.get (j := x1) (by omega)
          have hbt := hiff.2 hbd1
          subst hbt
          have hYW : KS w2.heap.size W us := (HE.out.keep w2.heap.size (lt_of_block HT6.out.u) (by have := HSZ.out; omega)).trans HT6.out.u
          have ku := hYW.at hbu
          obtain ⟨be, hbe, _⟩ := HBE.out.get (j := x1) (by omega)
          have ke := HE.out.e.at hbe
          have kf := ks_open HE.out.e x1
          have HE' := Lib.hid (HE.out.set (Nat.le_refl _) x1 true)
          have HBE' : Hid (BR (es.set x1 true) s.size (fun j => EdB st.d s.data.toList i j ∨ j = x1)) := Lib.hid (HBE.out.set (fun j => Iff.rfl))
          obtain ⟨be2, hbe2, _⟩ := HBE'.out.get (j := x2) (by omega)
          have ke2 := HE'.out.e.at hbe2
          have kf2 := ks_open HE'.out.e x2
          have kb2 : (W.setCell ⟨w1.heap.size, x1, none⟩ (.bool true)).cell? ⟨b, off + i * 2 + 1, none⟩ = some (.int .i64 (x2 : Int)) := (World.cell?_of_block (a := ⟨b, off + i * 2 + 1, none⟩) (set_other (Nat.lt_of_lt_of_le hbl HE.out.size) hbX)).trans k2
          have hrel' : Hid (EdI w1.heap.size w1 w6 ((W.setCell ⟨w1.heap.size, x1, none⟩ (.bool true)).setCell ⟨w1.heap.size, x2, none⟩ (.bool true)) ((es.set x1 true).set x2 true) ∧ BR ((es.set x1 true).set x2 true) s.size (EdB st.d s.data.toList (i + 1))) := Lib.hid ⟨HE'.out.set (Nat.le_refl _) x2 true, HBE'.out.set HEQ.out⟩
          have n1 : ¬ (x2 : Int) ≤ (x1 : Int) := by omega
          have n2 : ¬ (s.size : Int) < (x2 : Int) := by omega
          have n3 : (x1 : Int) < (s.size : Int) + 1 := by omega
          have n4 : (x2 : Int) < (s.size : Int) + 1 := by omega
          have n5 : (0 : Int) ≤ (x1 : Int) := by omega
          have n6 : (0 : Int) ≤ (x2 : Int) := by omega
          have n7 : (0 : Int) ≤ (i : Int) := by omega
          have n8 : (i : Int) < (L.length : Int) := by omega
          have n9 : (L.length : Int) ≤ 1048576 := by omega
          clear e1 e2 hbd1 hiff hbu hbe hbe2 c1 c2 hYW hx l1 l2
          go_wp2
          go_roundw
          case rel => exact ⟨i + 1, _, by rw [← HE2.out], by rw [Int.natCast_add]; rfl, by omega, Lib.hid hrel'.out.1, Lib.hid hrel'.out.2⟩
          case measure => (simp [intOf]; try omega)
        · obtain rfl : i = L.length := by omega
          rw [HEN.out]
          have HEB : Hid (BR es s.size (fun j => j ≤ s.size → edgeAt st.d s.data.toList (j : Int) = true)) := Lib.hid ⟨HBE.out.1, fun j b hj => by
            have hjl : j ≤ s.size := by have := (List.getElem?_eq_some_iff.1 hj).1; have := HBE.out.1; omega
            rw [HBE.out.2 j b hj, HED.out j hjl]
            exact ⟨fun h _ => h, fun h => h hjl⟩⟩
          have HRW : Hid (∀ W', Below W.heap.size W W' → ReadPairs W' (.slice A6 L.length c6) L) := Lib.hid (fun W' hW' => (readP_keep R6.out HT6.out.e HE.out.keep).on hW')
          have H1W := Lib.hid HE.out.low
          have HXW : Hid (Below w.heap.size w W) := Lib.hid (below_then' HB1.out H1W.out)
          have hlW : ((L.length : Nat) : Int) ≤ 1048576 := by omega
          go_wp2
          go_loopw [14] (fun v wx => ∃ j : Nat, v = .int .i64 (j : Nat) ∧ j ≤ s.size + 1 ∧ Below W.heap.size W wx) (fun v _ => s.size + 1 - (intOf v).toNat)
          case atStart => exact ⟨0, rfl, by omega, Below.refl _ W⟩
          case round =>
            obtain ⟨j, rfl, hj, hBr⟩ := hrel
            rename World => W2
            by_cases hjl : j ≤ s.size
            · obtain ⟨bj, hbj, hiff⟩ := HEB.out.get (j := j) hjl
              have hej : edgeAt st.d s.data.toList (j : Int) = bj := by
                cases bj with
                | true => exact hiff.1 rfl hjl
                | false =>
                  cases he : edgeAt st.d s.data.toList (j : Int) with
                  | false => rfl
                  | true => exact absurd (hiff.2 (fun _ => he)) (by decide)
              have EC := Lib.hid (edgeCall HP.out (HU.out.on HB1.out) HZ.out hej)
              have ke := later_cell hBr (HE.out.e.at hbj)
              have HBR2 := Lib.hid hBr
              have hbx := below_then' H1W.out hBr
              have m1 : (j : Int) < (s.size : Int) + 1 := by omega
              have m2 : (0 : Int) ≤ (j : Int) := by omega
              have m3 : (j : Int) ≤ (s.size : Int) := by omega
              clear hiff hbj hej hBr
              cases bj
              · go_wp2
                go_region_held3 (fun w' => w'.cell? ⟨w1.heap.size, j, none⟩ = some (.bool false)) (go_keep) ((go_at_call 10; (with_reducible refine (EC.out _ (by first | exact hbx | exact hbx.drew | exact below_drewN hbx _)).mono ?_); rintro e w7 ⟨rfl, hb7⟩; have ke := later_cell hb7 ke))
                have HB7 := Lib.hid (below_then' HBR2.out.drew hb7)
                clear hb7 hbx
                go_wp2
                go_roundw
                case rel => exact ⟨j + 1, by rw [Int.natCast_add]; rfl, by omega, HB7.out⟩
                case measure => (simp [intOf]; try omega)
              · go_wp2
                go_region_held3 (fun w' => w'.cell? ⟨w1.heap.size, j, none⟩ = some (.bool true)) (go_keep) ((go_at_call 10; (with_reducible refine (EC.out _ (by first | exact hbx | exact hbx.drew | exact below_drewN hbx _)).mono ?_); rintro e w7 ⟨rfl, hb7⟩; have ke := later_cell hb7 ke))
                have HB7 := Lib.hid (below_then' HBR2.out.drew hb7)
                clear hb7 hbx
                go_wp2
                go_roundw
                case rel => exact ⟨j + 1, by rw [Int.natCast_add]; rfl, by omega, HB7.out⟩
                case measure => (simp [intOf]; try omega)
            · have HBR2 := Lib.hid hBr
              have H1C := Lib.hid (below_then' H1W.out hBr)
              have m1 : ¬ (j : Int) ≤ (s.size : Int) := by omega
              have q1 : ((s.size : Int) == (s.size : Int)) = true := by simp
              have HGB := Lib.hid (gives_back HP.out (HU.out.on HB1.out) H1C.out s HZ.out)
              have hgb := gatherT (L := L.reverse) (by rw [List.length_reverse]; exact hL) (hLd ▸ HGB.out) _ (Below.refl _ _)
              rw [List.length_reverse] at hgb
              have HGB2 := Lib.hid hgb
              have HIB2 := Lib.hid (iter_below W2 p s)
              have HLD := Lib.hid hL
              clear hBr hgb HGB hL hj hjl
              go_wp2_with (first
                | (go_at_call 14; (refine (Back_calls p s _).mono ?_); rintro e w8 ⟨rfl, hw8⟩; subst w8)
                | (go_at_call 16; (refine HGB2.out.mono ?_); rintro e w9 ⟨A9, c9, rfl, r, hb⟩; have R9 := Lib.hid r; have HB9 := Lib.hid (below_then' HIB2.out hb); clear r hb)
                | (go_at_call 17; (refine (turnT (L := L.reverse) (by rw [List.length_reverse]; exact HLD.out) _ R9.out).mono ?_); rintro e w10 ⟨A10, c10, rfl, r, hb⟩; rw [List.reverse_reverse, List.length_reverse] at r; rw [List.length_reverse]; have R10 := Lib.hid r; have HB10 := Lib.hid (below_then' HB9.out hb); clear r hb)
                | (go_at_call 15; (refine (sameT _ R10.out (HRW.out _ (below_then' HBR2.out HB10.out)) rfl).mono ?_); rintro e w11 ⟨rfl, hb⟩; have HB11 := Lib.hid (below_then' HB10.out hb); clear hb)
                | (go_at_call 19; (with_reducible refine (HCN.out _ (below_then' H1C.out HB11.out)).mono ?_); rintro e w12 ⟨rfl, hb⟩; have HB12 := Lib.hid (below_then' HB11.out hb); clear hb)
                | (go_at_call 9; (with_reducible refine (HW.out _ (below_then' HXW.out (below_then' HBR2.out HB12.out))).mono ?_); rintro e w13 ⟨rfl, hb⟩; have HB13 := Lib.hid (below_then' HB12.out hb); clear hb))
              go_ret
              exact ⟨rfl, below_then' HXW.out (below_then' HBR2.out HB13.out)⟩
theorem cwhole_calls (f s : ByteArray) {m : Int} {ev : Value} (w : World) (hv : Vars w.heap.size w m ev) (hkd : KindsAt w) (hU : U8 w) : Calls Tryz.prog 6 #[.string f, .string s] w fun e w' => e = .returned (.bool true) ∧ Below w.heap.size w w' := by
  have hW := worksAt hv hU
  rcases both_cases f w hv hkd with h | ⟨D, _, h⟩
  · exact cwhole_none f s w h hW
  · by_cases hl : (4096 : Int) < s.size
    · exact cwhole_long f s D w h hW hl
    · exact cwhole_main f s D w h hW hU (by omega)
end Go.Proofs.YtfmcadobpgpajaaGreatDoor.Cl
