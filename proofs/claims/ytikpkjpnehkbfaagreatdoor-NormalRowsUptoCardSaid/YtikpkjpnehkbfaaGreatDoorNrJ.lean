/- The reference's whole, Whole: the walks; The reference's Decompose: the walk; What the reference answers of two points: Compose; The reference's Compose, Cut: the walks; The reference's Cut: the walk; Compose at worlds behind. -/
import Derived.Test.YtikpkjpnehkbfaaGreatDoorNrF
import Derived.Test.YtikpkjpnehkbfaaGreatDoorNrD
import Derived.Test.YtikpkjpnehkbfaaGreatDoorNrI
import Derived.Deep.RegionHeld3
import Derived.Deep.DeepCutAuto
set_option linter.unusedSimpArgs false
set_option linter.unusedVariables false
namespace Go.Proofs.YtikpkjpnehkbfaaGreatDoor.Nw
open Go Go.RowKit Go.Shelf Go.Proofs.YtikpkjpnehkbfaaGreatDoor.Sp Go.Proofs.YtikpkjpnehkbfaaGreatDoor.Pr Go.Proofs.YtikpkjpnehkbfaaGreatDoor.Rf Go.Proofs.YtikpkjpnehkbfaaGreatDoor.Nm Go.Proofs.YtikpkjpnehkbfaaGreatDoor.Sb
abbrev B32 (r : Int) : Prop := -2147483648 ≤ r ∧ r ≤ 2147483647
theorem char_b32 {r : Int} (h : isChar r = true) : B32 r := by have := char_iff.1 h; unfold B32; omega
theorem wholeGo_ne (D : PD) : ∀ (k : Nat) (r : Int), wholeGo D k r ≠ []
  | 0, r => by simp [wholeGo]
  | k + 1, r => by
    rw [wholeGo]
    split
    · simp
    · rename_i h
      cases hd : decompOf D r with
      | nil => exact absurd hd h
      | cons q t =>
        rw [List.flatMap_cons]
        intro e
        exact wholeGo_ne D k q (List.append_eq_nil_iff.1 e).1
theorem decomp_b32 {D : PD} (hg : Nm.Good D) {r q : Int} (hq : q ∈ decompOf D r) : B32 q := by
  have hne : decompOf D r ≠ [] := by intro e; rw [e] at hq; cases hq
  have h1 : q ∈ wholeGo D 1 r := by
    rw [wholeGo, if_neg hne, List.mem_flatMap]
    exact ⟨q, hq, by simp [wholeGo]⟩
  exact char_b32 (whole_char hg.ok 1 r (decomp_char hg hne) q h1)
theorem rownDecomp {q : Nat} {w0 : World} {st : St} (H : RefAt q w0 st) {r : Int} (hr : B32 r) {W : World} (hb : Below w0.heap.size w0 W) : Calls Tryz.prog 131 #[.pointer (some ⟨q, 0, none⟩), .int .i32 r] W fun e w' => ∃ A c, e = .returned (.slice A (decompOf st.d r).length c) ∧ OwnPts W.heap.size w' (.slice A (decompOf st.d r).length c) (decompOf st.d r) ∧ Below W.heap.size W w' :=
  (rdecomp_calls q st r hr.1 hr.2 W (H.on hb)).mono fun e w' ⟨v, h1, h2, h3⟩ => by
    obtain ⟨A, c, rfl⟩ := YtikpkjpnehkbfaaGreatDoor.Rowl.own_slice h2
    exact ⟨A, c, h1, h2, h3⟩
set_option maxHeartbeats 4000000 in
set_option maxRecDepth 100000 in
theorem rwhole_calls {w0 : World} {q : Nat} {st : St} (H : RefAt q w0 st) (hg : Nm.Good st.d) {n₀ : Nat} (hn0 : w0.heap.size ≤ n₀) : ∀ (k : Nat) (r : Int), k ≤ 100000 → B32 r → ∀ (W : World) (v : Value) (L : List Int), Below w0.heap.size w0 W → n₀ ≤ W.heap.size → OwnPts n₀ W v L → L.length + (wholeGo st.d k r).length ≤ 1073741824 →
    Calls Tryz.prog 99 #[.pointer (some ⟨q, 0, none⟩), .int .i32 r, v, .int .i64 k] W fun e W' => WholeOut n₀ W v (L ++ wholeGo st.d k r) e W' := by
  intro k
  induction k with
  | zero =>
    intro r _ hr W v L hb hn ho hlen
    have HD := Lib.hid (rownDecomp H hr hb)
    have HO := Lib.hid ho
    have HN := Lib.hid hn
    have HOA := Lib.hid (own_at ho)
    have hlenL : L.length ≤ 1073741824 := by omega
    have HW : Hid (wholeGo st.d 0 r = [r]) := Lib.hid rfl
    rw [show ((0 : Nat) : Int) = 0 from rfl]
    generalize decompOf st.d r = ds at HD
    obtain ⟨n, hnl⟩ : ∃ n, ds.length = n := ⟨_, rfl⟩
    rw [hnl] at HD
    obtain ⟨b, hbb⟩ : ∃ b, ((n : Int) == 0) = b := ⟨_, rfl⟩
    clear hb hn ho hlen hnl hr
    cases b
    all_goals
      go_enter Tryz.func99, Tryz.ntmps99
      go_wp2_with (first
        | (go_at_call 131; refine HD.out.mono ?_; rintro e w1 ⟨A, c, rfl, -, hb1⟩; have HB1 := Lib.hid hb1; clear hb1)
        | (at_builtin; refine wpList_append_mvd rfl _ _ rfl n₀ v L rfl (Rowl.own_later HO.out HB1.out) rfl hlenL (Nat.le_trans HN.out HB1.out.size) ?_; rintro v' w2 ho2 hm2 ⟨g, c2, rfl⟩; have HO2 := Lib.hid ho2; have HM2 := Lib.hid hm2; clear ho2 hm2))
      go_ret
      exact ⟨_, rfl, by rw [HW.out]; exact HO2.out, HM2.out.ahead HB1.out (fun g hg => (HOA.out g hg).2)⟩
  | succ k IHk =>
    intro r hk hr W v L hb hn ho hlen
    have HD := Lib.hid (rownDecomp H hr hb)
    have HO := Lib.hid ho
    have HB0 := Lib.hid hb
    have HN := Lib.hid hn
    have HOA := Lib.hid (own_at ho)
    have hlenL : L.length ≤ 1073741824 := by omega
    have hk0 : (0 : Int) ≤ (k : Int) := by omega
    have hk1 : (k : Int) ≤ 100000 := by omega
    rw [show ((k + 1 : Nat) : Int) = (k : Int) + 1 by omega]
    by_cases hd : decompOf st.d r = []
    · have HW : Hid (wholeGo st.d (k + 1) r = [r]) := Lib.hid (by rw [wholeGo, if_pos hd])
      rw [hd] at HD
      clear hb hn ho hlen hd hr IHk
      go_enter Tryz.func99, Tryz.ntmps99
      go_wp2_with (first
        | (go_at_call 131; refine HD.out.mono ?_; rintro e w1 ⟨A, c, rfl, -, hb1⟩; have HB1 := Lib.hid hb1; clear hb1)
        | (at_builtin; refine wpList_append_mvd rfl _ _ rfl n₀ v L rfl (Rowl.own_later HO.out HB1.out) rfl hlenL (Nat.le_trans HN.out HB1.out.size) ?_; rintro v' w2 ho2 hm2 ⟨g, c2, rfl⟩; have HO2 := Lib.hid ho2; have HM2 := Lib.hid hm2; clear ho2 hm2))
      go_ret
      exact ⟨_, rfl, by rw [HW.out]; exact HO2.out, HM2.out.ahead HB1.out (fun g hg => (HOA.out g hg).2)⟩
    · have HW : Hid (wholeGo st.d (k + 1) r = (decompOf st.d r).flatMap (wholeGo st.d k)) := Lib.hid (by rw [wholeGo, if_neg hd])
      have HF : Hid (∀ x ∈ decompOf st.d r, B32 x) := Lib.hid (fun x hx => decomp_b32 hg hx)
      have HLN : Hid (L.length + ((decompOf st.d r).flatMap (wholeGo st.d k)).length ≤ 1073741824) := Lib.hid (by rw [← HW.out]; exact hlen)
      have IH := Lib.hid (fun x hx => IHk x (by omega) hx)
      generalize decompOf st.d r = ds at HD hd HW HF HLN
      obtain ⟨n, hnl⟩ : ∃ n, ds.length = n + 1 := ⟨ds.length - 1, by have := List.length_pos_iff.2 hd; omega⟩
      have HNL := Lib.hid hnl
      rw [hnl] at HD
      have hn31 : n < 1073741824 := by
        have h1 := flat_ge (f := wholeGo st.d k) (l := ds) (fun x hx => wholeGo_ne _ _ _)
        have := HLN.out
        omega
      clear hb hn ho hlen hd hnl hr IHk
      have hne : ((n : Int) + 1 == 0) = false := beq_eq_false_iff_ne.2 (by omega)
      have hke : ((k : Int) + 1 == 0) = false := beq_eq_false_iff_ne.2 (by omega)
      go_enter Tryz.func99, Tryz.ntmps99
      go_wp2_with (go_at_call 131; refine HD.out.mono ?_; rintro e w1 ⟨A, c, rfl, ho1, hb1⟩; have HB1 := Lib.hid hb1; have HO1 := Lib.hid ho1; clear hb1 ho1)
      obtain ⟨g, c', e⟩ := ownsRow_succ (k := n) (by have := HO1.out; rw [OwnPts, HNL.out] at this; exact this)
      injection e with e1 _ e3
      subst e1
      subst e3
      have HG : Hid (W.heap.size ≤ g ∧ g < w1.heap.size) := Lib.hid (own_at HO1.out g rfl)
      have HCL := Lib.hid (fun (i : Nat) (x : Int) (hx : ds[i]? = some x) => own_cells HO1.out hx)
      have HM0 : Hid (Mvd W w1 v v) := Lib.hid ((Mvd.refl W v).later HB1.out)
      go_loopg [2, 10] (n + 1) (fun gk vout vi wr => ∃ (i : Nat), vi = .int .i64 i ∧ i ≤ n + 1 ∧ n + 1 - i ≤ gk ∧ Hid (OwnPts n₀ wr vout (L ++ (ds.take i).flatMap (wholeGo st.d k)) ∧ Mvd W wr v vout ∧ Mvd w1 wr v vout))
      case atStart => exact ⟨0, rfl, Nat.zero_le _, by omega, Lib.hid ⟨by rw [List.take_zero, List.flatMap_nil, List.append_nil]; exact Rowl.own_later HO.out HB1.out, HM0.out, Mvd.refl _ _⟩⟩
      case round =>
        obtain ⟨i, rfl, hi, hg1, HI⟩ := hrel
        by_cases hlt : i < n + 1
        · have hz : (i : Int) < (n : Int) + 1 := by omega
          obtain ⟨x, hx⟩ : ∃ x, ds[i]? = some x := ⟨_, List.getElem?_eq_getElem (by rw [HNL.out]; exact hlt)⟩
          have cx : wr.cell? ⟨g, i, none⟩ = some (.int .i32 x) := (World.cell?_of_block (a := ⟨g, i, none⟩) (HI.out.2.2.block g HG.out.2 (fun e => by have := (HOA.out g e).2; have := HG.out.1; omega))).trans (HCL.out i x hx)
          have hle := take_flat_le (f := wholeGo st.d k) hx
          have HC := Lib.hid (IH.out x (HF.out x (List.mem_of_getElem? hx)) wr _ _ (HB0.out.trans ((HI.out.2.1.below HN.out (fun g hg => (HOA.out g hg).1)).mono hn0)) (Nat.le_trans HN.out HI.out.2.1.size) HI.out.1 (by have := HLN.out; rw [List.length_append]; omega))
          have HT := Lib.hid (take_flat (f := wholeGo st.d k) hx)
          clear hx hle
          go_wp2_with (go_at_call 99; refine HC.out.mono ?_; rintro e w2 ⟨v2, rfl, ho2, hm2⟩; have HO2 := Lib.hid ho2; have HM2 := Lib.hid hm2; clear ho2 hm2)
          go_roundg (n - i)
          case rel => exact ⟨i + 1, by go_num, by omega, by omega, Lib.hid ⟨by have := HO2.out; rw [List.append_assoc, ← HT.out] at this; exact this, HI.out.2.1.trans HM2.out, HI.out.2.2.trans HM2.out⟩⟩
          case measure => omega
        · obtain rfl : i = n + 1 := by omega
          go_wp2
          go_ret
          exact ⟨_, rfl, by rw [HW.out]; have := HI.out.1; rwa [← HNL.out, List.take_of_length_le (Nat.le_refl _)] at this, HI.out.2.1⟩
set_option maxHeartbeats 1000000 in
theorem rWhole_calls {w0 : World} {q : Nat} {st : St} (H : RefAt q w0 st) (hg : Nm.Good st.d) {r : Int} (hr : B32 r) {W : World} (hb : Below w0.heap.size w0 W) :
    Calls Tryz.prog 57 #[.pointer (some ⟨q, 0, none⟩), .int .i32 r] W fun e W' => ∃ v, e = .returned v ∧ OwnPts W.heap.size W' v (wholeOf st.d r) ∧ Below W.heap.size W W' := by
  have h8 := (hg.len r).2
  have HC : Hid (Calls Tryz.prog 99 #[.pointer (some ⟨q, 0, none⟩), .int .i32 r, .slice none 0 0, .int .i64 100000] W fun e W' => WholeOut W.heap.size W (.slice none 0 0) (wholeOf st.d r) e W') := Lib.hid (by
    unfold wholeOf at h8 ⊢
    obtain ⟨K, hK⟩ : ∃ K : Nat, 100000 = K := ⟨_, rfl⟩
    have := rwhole_calls H hg hb.size K r (by omega) hr W (.slice none 0 0) [] hb (Nat.le_refl _) ⟨rfl, .inl ⟨rfl, rfl⟩⟩ (by rw [← hK]; simp; omega)
    rw [← hK] at this
    rw [List.nil_append] at this
    exact this)
  clear h8 H hg hr hb
  go_enter Tryz.func57, Tryz.ntmps57
  go_wp2_with (go_at_call 99; (with_reducible refine HC.out.mono ?_); rintro e w2 ⟨v2, rfl, ho2, hm2⟩; have HO2 := Lib.hid ho2; have HM2 := Lib.hid (hm2.below (Nat.le_refl W.heap.size) (fun g h => by cases h)); clear ho2 hm2)
  go_ret
  exact ⟨_, rfl, HO2.out, HM2.out⟩
end Go.Proofs.YtikpkjpnehkbfaaGreatDoor.Nw
namespace Go.Proofs.YtikpkjpnehkbfaaGreatDoor.Nw
open Go Go.RowKit Go.Shelf Go.Proofs.YtikpkjpnehkbfaaGreatDoor.Sp Go.Proofs.YtikpkjpnehkbfaaGreatDoor.Pr Go.Proofs.YtikpkjpnehkbfaaGreatDoor.Rf Go.Proofs.YtikpkjpnehkbfaaGreatDoor.Nm Go.Proofs.YtikpkjpnehkbfaaGreatDoor.Sb
abbrev RClassAt (w : World) (q : Nat) (r c : Int) : Prop := ∀ W : World, Below w.heap.size w W → Calls Tryz.prog 58 #[.pointer (some ⟨q, 0, none⟩), .int .i32 r] W fun e w' => e = .returned (.int .i64 c) ∧ w' = W
theorem rclassAt {w : World} {q : Nat} {st : St} (H : RefAt q w st) {r c : Int} (hr : B32 r) (h : classOf st.d r = c) : RClassAt w q r c := fun W hW => by
  rw [← h]; exact (rclass_calls q st r hr.1 hr.2 W (H.on hW)).mono fun e w' ⟨a, b⟩ => ⟨a, b.symm⟩
theorem whole_b32 {D : PD} (hg : Nm.Good D) {r x : Int} (hr : B32 r) (hx : x ∈ wholeOf D r) : B32 x := by
  by_cases hc : isChar r = true
  · exact char_b32 (whole_char hg.ok 100000 r hc x hx)
  · have hc' : isChar r = false := by simpa using hc
    rw [whole_ill hg hc', List.mem_singleton] at hx
    rw [hx]; exact hr
theorem bi_b32 {c : Int → Int} {l : List Int} {x : Int} {n : Nat} {o : List Int} (h : BI c (ordR c l) x n o) (hl : ∀ y ∈ l, B32 y) (hx : B32 x) : ∀ y ∈ o, B32 y := by
  obtain ⟨A, B, rfl, e, _, _⟩ := h.ex
  intro y hy
  rcases List.mem_append.1 hy with hy | hy
  · exact hl y (ordR_mem.1 (by rw [← e]; exact List.mem_append_left _ hy))
  · rcases List.mem_cons.1 hy with rfl | hy
    · exact hx
    · exact hl y (ordR_mem.1 (by rw [← e]; exact List.mem_append_right _ hy))
theorem swap_own {n₀ : Nat} {W : World} {g m c : Nat} {o : List Int} (h : OwnPts n₀ W (.slice (some ⟨g, 0, none⟩) m c) o) (hm : o.length = m) {n : Nat} (hn : n + 1 < m) (x y : Int) :
    OwnPts n₀ ((W.setCell ⟨g, n + 1, none⟩ (.int .i32 y)).setCell ⟨g, n, none⟩ (.int .i32 x)) (.slice (some ⟨g, 0, none⟩) m c) ((o.set (n + 1) y).set n x) ∧ Mvd W ((W.setCell ⟨g, n + 1, none⟩ (.int .i32 y)).setCell ⟨g, n, none⟩ (.int .i32 x)) (.slice (some ⟨g, 0, none⟩) m c) (.slice (some ⟨g, 0, none⟩) m c) ∧ W.frozen? ⟨g, n + 1, none⟩ = false ∧ (W.setCell ⟨g, n + 1, none⟩ (.int .i32 y)).frozen? ⟨g, n, none⟩ = false := by
  obtain ⟨h1, h2, h3⟩ := own_set h hm (i := n + 1) hn y
  obtain ⟨k1, k2, k3⟩ := own_set h1 (by rw [List.length_set]; exact hm) (i := n) (by omega) x
  exact ⟨k1, h2.trans k2, h3, k3⟩
set_option maxHeartbeats 8000000 in
set_option maxRecDepth 100000 in
theorem rdec_calls {w0 : World} {q : Nat} {st : St} (H : RefAt q w0 st) (hgood : Nm.Good st.d) {W : World} {lv : Value} {l : List Int} (hb : Below w0.heap.size w0 W) (hr : ReadPts W lv l) (h32 : ∀ x ∈ l, B32 x) (hf : (flat st.d l).length ≤ 16777216) :
    Calls Tryz.prog 20 #[.pointer (some ⟨q, 0, none⟩), lv] W fun e W' => ∃ v, e = .returned v ∧ OwnPts W.heap.size W' v (decN st.d l) ∧ Below W.heap.size W W' := by
  have hl : l.length ≤ 16777216 := Nat.le_trans (flat_length hgood l).1 hf
  obtain ⟨A, c, rfl, hc⟩ := read_addr hr
  have HC := Lib.hid hc
  have HB := Lib.hid hb
  have H32 := Lib.hid h32
  have HH := Lib.hid H
  have HG := Lib.hid hgood
  obtain ⟨n, hn⟩ : ∃ n, l.length = n := ⟨_, rfl⟩
  have HN := Lib.hid hn
  have HFL : Hid (∀ i, (flat st.d (l.take i)).length ≤ 16777216) := Lib.hid (fun i => Nat.le_trans (flat_take_le st.d l i) hf)
  have HT := Lib.hid (fun (i : Nat) (x : Int) (hx : l[i]? = some x) => flat_take (D := st.d) hx)
  rw [hn] at hl ⊢
  clear hc hb hr hn hf h32 H hgood
  go_enter Tryz.func20, Tryz.ntmps20
  go_wp2
  go_loopg [5, 6] n (fun gk vout vi wr => ∃ (i : Nat), vi = .int .i64 i ∧ i ≤ n ∧ n - i ≤ gk ∧ Hid (OwnPts W.heap.size wr vout (ordR (classOf st.d) (flat st.d (l.take i))) ∧ Below W.heap.size W wr ∧ ∀ y ∈ flat st.d (l.take i), B32 y))
  case atStart => exact ⟨0, rfl, Nat.zero_le _, by omega, Lib.hid ⟨⟨rfl, .inl ⟨rfl, rfl⟩⟩, Below.refl _ _, fun y hy => by simp [Nm.flat] at hy⟩⟩
  case round =>
    obtain ⟨i, rfl, hi, hg1, HI⟩ := hrel
    by_cases hlt : i < n
    · have hz : (i : Int) < (n : Int) := by omega
      obtain ⟨x, hx⟩ : ∃ x, l[i]? = some x := ⟨_, List.getElem?_eq_getElem (by rw [HN.out]; exact hlt)⟩
      obtain ⟨b, off, rfl, cx0⟩ := HC.out i x hx
      have cx := Sb.later_cell HI.out.2.1 cx0
      have hx32 := H32.out x (List.mem_of_getElem? hx)
      have HTX := Lib.hid (HT.out i x hx)
      have HWX := Lib.hid (rWhole_calls HH.out HG.out hx32 (bl_then HB.out HI.out.2.1))
      have HW32 : Hid (∀ y ∈ wholeOf st.d x, B32 y) := Lib.hid (fun y hy => whole_b32 HG.out hx32 hy)
      have HFX := Lib.hid (HFL.out (i + 1))
      rw [HTX.out, List.length_append] at HFX
      have HWN := Lib.hid (HG.out.len x).2
      generalize wholeOf st.d x = ws at *
      obtain ⟨kn, hkn⟩ : ∃ kn, ws.length = kn := ⟨_, rfl⟩
      have HKN := Lib.hid hkn
      have hk8 : kn ≤ 8 := by rw [← hkn]; exact HWN.out
      clear hx cx0 hx32
      go_wp2_with (go_at_call 57; (with_reducible refine HWX.out.mono ?_); rintro e w2 ⟨v2, rfl, ho2, hb2⟩; obtain ⟨A2, c2, rfl⟩ := YtikpkjpnehkbfaaGreatDoor.Rowl.own_slice ho2; have HO2 := Lib.hid ho2; have HB2 := Lib.hid hb2; clear ho2 hb2)
      clear hkn
      have HO0 : Hid (OwnPts W.heap.size w2 u5 (ordR (classOf st.d) (Nm.flat st.d (l.take i)))) := Lib.hid (Rowl.own_later HI.out.1 HB2.out)
      have HV5 : Hid (∀ g, u5.ownBlock = some g → W.heap.size ≤ g ∧ g < wr.heap.size) := Lib.hid (own_at HI.out.1)
      have HWS : Hid (∀ (j : Nat) (y : Int), ws[j]? = some y → ∃ g, A2 = some ⟨g, 0, none⟩ ∧ w2.cell? ⟨g, j, none⟩ = some (.int .i32 y) ∧ wr.heap.size ≤ g ∧ g < w2.heap.size) := Lib.hid (fun j y hj => by
        rcases own_split HO2.out with ⟨_, e⟩ | ⟨g, cap, sp, e, _⟩
        · rw [e] at hj; simp at hj
        · injection e with e1 e2 e3
          subst e1
          exact ⟨g, rfl, own_cells HO2.out hj, own_at HO2.out g rfl⟩)
      have HF32 := Lib.hid HI.out.2.2
      have HBI0 := Lib.hid HI.out.2.1
      generalize Nm.flat st.d (l.take i) = fl at *
      clear HI
      go_loopg [5, 8] kn (fun gk vout vk w3 => ∃ (k : Nat), vk = .int .i64 k ∧ k ≤ kn ∧ kn - k ≤ gk ∧ Hid (OwnPts W.heap.size w3 vout (ordR (classOf st.d) (fl ++ ws.take k)) ∧ Mvd w2 w3 u5 vout))
      case atStart => exact ⟨0, rfl, Nat.zero_le _, by omega, Lib.hid ⟨by rw [List.take_zero, List.append_nil]; exact HO0.out, Mvd.refl _ _⟩⟩
      case round =>
        obtain ⟨k, rfl, hk, hg2, HK⟩ := hrel
        rename_i vout
        have HBW3 : Hid (Below w0.heap.size w0 wr) := Lib.hid (bl_then HB.out ((bl_then HBI0.out HB2.out).trans (HK.out.2.below (bl_then HBI0.out HB2.out).size (fun g hg => (HV5.out g hg).1))))
        by_cases hkl : k < kn
        · have hkz : (k : Int) < (kn : Int) := by omega
          obtain ⟨y, hy⟩ : ∃ y, ws[k]? = some y := ⟨_, List.getElem?_eq_getElem (by rw [HKN.out]; exact hkl)⟩
          obtain ⟨g2, rfl, cy0, hg2a, hg2b⟩ := HWS.out k y hy
          have cy : wr.cell? ⟨g2, k, none⟩ = some (.int .i32 y) := (World.cell?_of_block (a := ⟨g2, k, none⟩) (HK.out.2.block g2 hg2b (fun e => by have := (HV5.out g2 e).2; omega))).trans cy0
          have hy32 := HW32.out y (List.mem_of_getElem? hy)
          have HTK : Hid (fl ++ ws.take (k + 1) = (fl ++ ws.take k) ++ [y]) := Lib.hid (by rw [List.take_add_one, hy, List.append_assoc]; rfl)
          have HL32 : Hid (∀ z ∈ fl ++ ws.take k, B32 z) := Lib.hid (fun z hz => by
            rcases List.mem_append.1 hz with h | h
            · exact HF32.out z h
            · exact HW32.out z (List.mem_of_mem_take h))
          have HY32 := Lib.hid hy32
          have HCY := Lib.hid (rclassAt (r := y) HH.out hy32 rfl)
          have HLT : Hid ((fl ++ ws.take k).length ≤ 16777216) := Lib.hid (by have := HFX.out; rw [List.length_append, List.length_take]; omega)
          obtain ⟨pl, hpl⟩ : ∃ pl, fl ++ ws.take k = pl := ⟨_, rfl⟩
          rw [hpl] at HTK HL32 HK HLT
          obtain ⟨Ln, hLn⟩ : ∃ Ln, (ordR (classOf st.d) pl).length = Ln := ⟨_, rfl⟩
          have hLb : Ln ≤ 16777216 := by rw [← hLn, ordR_length]; exact HLT.out
          have HLN := Lib.hid hLn
          have e1 : IntKind.i64.wrap ((Ln : Int) + 1 - 1) = (Ln : Int) := (IntWalk.i64_in _ (by omega)).trans (by omega)
          have e2 : IntKind.i64.wrap (Ln : Int) = (Ln : Int) := IntWalk.i64_in _ (by omega)
          have HWZ : Hid (W.heap.size ≤ wr.heap.size) := Lib.hid (by have := HK.out.2.size; have := HBI0.out.size; have := HB2.out.size; omega)
          clear hy hy32 cy0 hLn hpl
          go_wp2_with (at_builtin; refine wpList_append_mvd rfl _ _ rfl W.heap.size _ (ordR (classOf st.d) pl) rfl HK.out.1 rfl (by rw [HLN.out]; omega) HWZ.out ?_; rintro v' w4 ho4 hm4 ⟨g4, c4, rfl⟩; rw [HLN.out] at ho4 hm4 ⊢; have HO4 := Lib.hid ho4; have HM4 := Lib.hid (HK.out.2.trans hm4); have HG4 : Hid (W.heap.size ≤ g4) := Lib.hid (own_at ho4 g4 rfl).1; clear ho4 hm4)
          have HBW4 : Hid (Below w0.heap.size w0 w4) := Lib.hid (bl_then HB.out ((bl_then HBI0.out HB2.out).trans (HM4.out.below (bl_then HBI0.out HB2.out).size (fun g hg => (HV5.out g hg).1))))
          go_loopg [9] Ln (fun gk vn w5 => ∃ (m : Nat) (o : List Int), vn = .int .i64 m ∧ m ≤ Ln ∧ m ≤ gk ∧ Hid (BI (classOf st.d) (ordR (classOf st.d) pl) y m o ∧ OwnPts W.heap.size w5 (.slice (some ⟨g4, 0, none⟩) (Ln + 1) c4) o ∧ Mvd w4 w5 (.slice (some ⟨g4, 0, none⟩) (Ln + 1) c4) (.slice (some ⟨g4, 0, none⟩) (Ln + 1) c4)))
          case atStart => exact ⟨Ln, _, rfl, Nat.le_refl _, Nat.le_refl _, Lib.hid ⟨by have := BI.start (classOf st.d) (ordR (classOf st.d) pl) y; rwa [HLN.out] at this, HO4.out, Mvd.refl _ _⟩⟩
          case round =>
            obtain ⟨m, o, rfl, hmL, hmg, HM⟩ := hrel
            have HBW5 : Hid (Below w0.heap.size w0 wr) := Lib.hid (HBW4.out.trans (HM.out.2.2.below HBW4.out.size (fun g hg => by obtain rfl : g4 = g := (by simpa [Value.ownBlock] using hg); have := HG4.out; have := HB.out.size; omega)))
            obtain ⟨hx1, _, hol⟩ := HM.out.1.get
            have HOL : Hid (o.length = Ln + 1) := Lib.hid (by rw [hol, HLN.out])
            have c1 := own_cells HM.out.2.1 hx1
            have HO32 := Lib.hid (bi_b32 HM.out.1 HL32.out HY32.out)
            have hbw : Below w0.heap.size w0 wr := HBW5.out
            obtain ⟨ky, hky⟩ : ∃ ky, classOf st.d y = ky := ⟨_, rfl⟩
            have HCYY := HCY
            rw [hky] at HCYY
            have hmz : (m : Int) < (Ln : Int) + 1 := by omega
            clear hx1 hol
            by_cases h0 : m = 0
            · have HE : Hid (o = ordR (classOf st.d) (pl ++ [y])) := Lib.hid (HM.out.1.done HG.out.nn (.inl h0))
              subst h0
              go_wp2
              go_region
              all_goals
                go_wp2
                go_roundg (kn - (k + 1))
                case rel => exact ⟨k + 1, by go_num, by omega, by omega, Lib.hid ⟨by rw [HTK.out, ← HE.out]; exact HM.out.2.1.drew, (HM4.out.trans HM.out.2.2).later (Below.refl _ _).drew⟩⟩
                case measure => omega
            · obtain ⟨j, rfl⟩ : ∃ j, m = j + 1 := ⟨m - 1, by omega⟩
              obtain ⟨z, hz2⟩ : ∃ z, o[j]? = some z := ⟨_, List.getElem?_eq_getElem (by rw [HOL.out]; omega)⟩
              have c2' := own_cells HM.out.2.1 hz2
              have HCZ := Lib.hid (rclassAt (r := z) HH.out (HO32.out z (List.mem_of_getElem? hz2)) rfl)
              obtain ⟨kz, hkz2⟩ : ∃ kz, classOf st.d z = kz := ⟨_, rfl⟩
              rw [hkz2] at HCZ
              have hj0 : (0 : Int) < (j : Int) + 1 := by omega
              have hjz : (j : Int) < (Ln : Int) + 1 := by omega
              have hjz1 : (j : Int) + 1 < (Ln : Int) + 1 := by omega
              have hjn : (0 : Int) ≤ (j : Int) := by omega
              have hjn1 : (0 : Int) ≤ (j : Int) + 1 := by omega
              have e3 : IntKind.i64.wrap ((j : Int) + 1 - 1) = (j : Int) := (IntWalk.i64_in _ (by omega)).trans (by omega)
              have e4 : IntKind.i64.wrap (j : Int) = (j : Int) := IntWalk.i64_in _ (by omega)
              have HST := Lib.hid (fun (h1 : 0 < ky) (h2 : ky < kz) => HM.out.1.step hz2 (by rw [hky]; exact h1) (by rw [hky, hkz2]; exact h2))
              have HSW := Lib.hid (swap_own HM.out.2.1 HOL.out (n := j) (by omega) y z)
              have HSF := Lib.hid (fun N => swap_own (Rowl.own_later HM.out.2.1 (bl_drewN (Below.refl _ wr) N)) HOL.out (n := j) (by omega) y z)
              have f1 := HSW.out.2.2.1
              have f2 := (own_set HM.out.2.1 HOL.out (i := j) (by omega) y).2.2
              by_cases hp : 0 < ky
              · by_cases hs : ky < kz
                · have HS2 := Lib.hid (HST.out hp hs)
                  clear HST hz2 hky hkz2
                  go_wp2
                  go_quiet (first
                      | (go_at_call 58; with_reducible refine Calls.quiet_of_same (HCYY.out _ (by first | exact hbw | exact hbw.drew | exact bl_drewN hbw _)))
                      | (go_at_call 58; with_reducible refine Calls.quiet_of_same (HCZ.out _ (by first | exact hbw | exact hbw.drew | exact bl_drewN hbw _))))
                  go_wp2
                  go_roundg j
                  case rel => exact ⟨j, _, by go_num, by omega, by omega, Lib.hid ⟨HS2.out, (HSF.out _).1, (HM.out.2.2.later (bl_drewN (Below.refl _ wr) _)).trans (HSF.out _).2.1⟩⟩
                  case measure => omega
                · have HE : Hid (o = ordR (classOf st.d) (pl ++ [y])) := Lib.hid (HM.out.1.done HG.out.nn (.inr (.inr ⟨z, hz2, by rw [hky, hkz2]; exact hs⟩)))
                  clear HST hz2 hky hkz2 HSW HSF f1 f2
                  go_wp2
                  go_quiet (first
                      | (go_at_call 58; with_reducible refine Calls.quiet_of_same (HCYY.out _ (by first | exact hbw | exact hbw.drew | exact bl_drewN hbw _)))
                      | (go_at_call 58; with_reducible refine Calls.quiet_of_same (HCZ.out _ (by first | exact hbw | exact hbw.drew | exact bl_drewN hbw _))))
                  go_wp2
                  go_roundg (kn - (k + 1))
                  case rel => exact ⟨k + 1, by go_num, by omega, by omega, Lib.hid ⟨by rw [HTK.out, ← HE.out]; exact Rowl.own_later HM.out.2.1 (bl_drewN (Below.refl _ wr) _), (HM4.out.trans HM.out.2.2).later (bl_drewN (Below.refl _ wr) _)⟩⟩
                  case measure => omega
              · have HE : Hid (o = ordR (classOf st.d) (pl ++ [y])) := Lib.hid (HM.out.1.done HG.out.nn (.inr (.inl (by rw [hky]; exact hp))))
                obtain rfl : ky = 0 := by have := HG.out.nn y; rw [hky] at this; omega
                go_wp2
                go_quiet (first
                    | (go_at_call 58; with_reducible refine Calls.quiet_of_same (HCYY.out _ (by first | exact hbw | exact hbw.drew | exact bl_drewN hbw _)))
                    | (go_at_call 58; with_reducible refine Calls.quiet_of_same (HCZ.out _ (by first | exact hbw | exact hbw.drew | exact bl_drewN hbw _))))
                go_wp2
                go_roundg (kn - (k + 1))
                case rel => exact ⟨k + 1, by go_num, by omega, by omega, Lib.hid ⟨by rw [HTK.out, ← HE.out]; exact Rowl.own_later HM.out.2.1 (bl_drewN (Below.refl _ wr) _), (HM4.out.trans HM.out.2.2).later (bl_drewN (Below.refl _ wr) _)⟩⟩
                case measure => omega
        · obtain rfl : k = kn := by omega
          have HTW : Hid (fl ++ ws.take k = Nm.flat st.d (l.take (i + 1))) := Lib.hid (by rw [← HKN.out, List.take_of_length_le (Nat.le_refl _)]; exact HTX.out.symm)
          have HOW := Lib.hid HK.out.1
          rw [HTW.out] at HOW
          have HBF : Hid (Below W.heap.size W wr) := Lib.hid ((bl_then HBI0.out HB2.out).trans (HK.out.2.below (bl_then HBI0.out HB2.out).size (fun g hg => (HV5.out g hg).1)))
          have H32F : Hid (∀ y ∈ Nm.flat st.d (l.take (i + 1)), B32 y) := Lib.hid (fun y hy => by
            rw [HTX.out] at hy
            rcases List.mem_append.1 hy with h | h
            · exact HF32.out y h
            · exact HW32.out y h)
          go_wp2
          go_roundg (n - (i + 1))
          case rel => exact ⟨i + 1, by go_num, by omega, by omega, Lib.hid ⟨HOW.out, HBF.out, H32F.out⟩⟩
          case measure => omega
    · have hin : i = l.length := by rw [HN.out]; omega
      have HO : Hid (OwnPts W.heap.size wr u5 (decN st.d l)) := Lib.hid (by have := HI.out.1; rw [hin, List.take_of_length_le (Nat.le_refl _)] at this; exact this)
      have hz : ¬ (i : Int) < (n : Int) := by omega
      clear hin hlt
      go_wp2
      go_ret
      exact ⟨_, rfl, HO.out, HI.out.2.1⟩
theorem dec_b32 {D : PD} (hg : Nm.Good D) {l : List Int} (h : ∀ x ∈ l, B32 x) : ∀ y ∈ decN D l, B32 y := fun y hy => by
  obtain ⟨r, hr, hy⟩ := dec_mem.1 hy
  exact whole_b32 hg (h r hr) hy
abbrev RDecAt (w : World) (q : Nat) (l r : List Int) : Prop := ∀ W lv, Below w.heap.size w W → ReadPts W lv l → Calls Tryz.prog 20 #[.pointer (some ⟨q, 0, none⟩), lv] W (RowBack r W)
theorem rdecAt {w : World} {q : Nat} {st : St} (H : RefAt q w st) (hg : Nm.Good st.d) {l r : List Int} (h : decN st.d l = r) (h32 : ∀ x ∈ l, B32 x) (hl : (Nm.flat st.d l).length ≤ 16777216) : RDecAt w q l r := fun W lv hb hr =>
  (rdec_calls H hg hb hr h32 hl).mono fun e w' h' => by rw [h] at h'; exact rowAt_own h'
end Go.Proofs.YtikpkjpnehkbfaaGreatDoor.Nw
namespace Go.Proofs.YtikpkjpnehkbfaaGreatDoor.Rf
open Go Go.RowKit Go.Shelf Go.Proofs.YtikpkjpnehkbfaaGreatDoor.Sp Go.Proofs.YtikpkjpnehkbfaaGreatDoor.Pr Go.Proofs.YtikpkjpnehkbfaaGreatDoor.Rowl
def composeV (o : Option Int) : Value := .tuple #[.int .i32 (o.getD 0), .bool o.isSome]
def accL (l : List (Int × List Int)) (a b : Int) (i : Nat) : Option Int := (l.take i).foldl (leastF a b) none
theorem accL_all (l : List (Int × List Int)) (a b : Int) : accL l a b l.length = least l a b := by
  unfold accL
  rw [List.take_of_length_le (Nat.le_refl _)]
  rfl
theorem accL_step {l : List (Int × List Int)} {a b : Int} {i : Nat} {p : Int × List Int} (h : l[i]? = some p) : accL l a b (i + 1) = leastF a b (accL l a b i) p := by
  unfold accL
  rw [List.take_add_one, h, List.foldl_append]
  rfl
set_option maxHeartbeats 8000000 in
set_option maxRecDepth 100000 in
theorem rcompose_lead (q : Nat) (a b : Int) (w : World) (h1 : 4352 ≤ a) (h2 : a < 4371) (h3 : 4449 ≤ b) (h4 : b < 4470) : Calls Tryz.prog 59 #[.pointer (some ⟨q, 0, none⟩), .int .i32 a, .int .i32 b] w fun e w' => e = .returned (composeV (some (44032 + ((a - 4352) * 21 + b - 4449) * 28))) ∧ Below w.heap.size w w' := by
  have g1 : a ≤ 4370 := by omega
  have g2 : b ≤ 4469 := by omega
  go_enter Tryz.func59, Tryz.ntmps59
  go_wp2
  go_ret2
  exact ⟨rfl, Below.refl _ _⟩
set_option maxHeartbeats 8000000 in
set_option maxRecDepth 100000 in
theorem rcompose_tail (q : Nat) (a b : Int) (w : World) (h1 : isSyl a = true) (h2 : (a - 44032) % 28 = 0) (h3 : 4519 < b) (h4 : b < 4547) : Calls Tryz.prog 59 #[.pointer (some ⟨q, 0, none⟩), .int .i32 a, .int .i32 b] w fun e w' => e = .returned (composeV (some (a + b - 4519))) ∧ Below w.heap.size w w' := by
  have h0 : 44032 ≤ a ∧ a < 55204 := by simpa [isSyl] using h1
  obtain ⟨g1, g2⟩ := h0
  have g3 : ¬ a ≤ 4370 := by omega
  have g4 : 4520 ≤ b := by omega
  have g5 : b ≤ 4546 := by omega
  have hb28 : ((a - 44032) % 28 == 0) = true := by rw [h2]; rfl
  clear h2
  go_enter Tryz.func59, Tryz.ntmps59
  go_wp2_with (go_at_call 101; (with_reducible refine (syl_calls _ _).mono ?_); rintro e w6 ⟨rfl, hw⟩; subst w6)
  go_ret2
  exact ⟨rfl, Below.refl _ _⟩
def CA (l : List (Int × List Int)) (a b : Int) (i : Nat) (lv : Int) (fd : Bool) : Prop := (fd = false → accL l a b i = none ∧ lv = 0) ∧ (fd = true → accL l a b i = some lv)
theorem CA.skip {l : List (Int × List Int)} {a b : Int} {i : Nat} {lv : Int} {fd : Bool} (h : CA l a b i lv fd) {p : Int × List Int} (hp : l[i]? = some p) (hn : p.2 ≠ [a, b]) : CA l a b (i + 1) lv fd := by
  have e : accL l a b (i + 1) = accL l a b i := by rw [accL_step hp]; unfold leastF; rw [if_neg hn]
  unfold CA
  rw [e]
  exact h
theorem CA.take {l : List (Int × List Int)} {a b : Int} {i : Nat} {lv : Int} {fd : Bool} (h : CA l a b i lv fd) {r : Int} (hp : l[i]? = some (r, [a, b])) (hc : fd = false ∨ r < lv) : CA l a b (i + 1) r true := by
  refine ⟨fun e => (by cases e), fun _ => ?_⟩
  rw [accL_step hp]
  unfold leastF
  rw [if_pos rfl]
  cases fd with
  | false => rw [(h.1 rfl).1]
  | true =>
    rw [h.2 rfl]
    simp only
    rw [if_pos (hc.resolve_left (fun e => by cases e))]
theorem CA.keep {l : List (Int × List Int)} {a b : Int} {i : Nat} {lv : Int} (h : CA l a b i lv true) {r : Int} (hp : l[i]? = some (r, [a, b])) (hc : ¬ r < lv) : CA l a b (i + 1) lv true := by
  refine ⟨fun e => (by cases e), fun _ => ?_⟩
  rw [accL_step hp]
  unfold leastF
  rw [if_pos rfl, h.2 rfl]
  simp only
  rw [if_neg hc]
theorem CA.out {l : List (Int × List Int)} {a b : Int} {i : Nat} {lv : Int} {fd : Bool} (h : CA l a b i lv fd) : composeV (accL l a b i) = .tuple #[.int .i32 lv, .bool fd] := by
  unfold composeV
  cases fd with
  | false => rw [(h.1 rfl).1, (h.1 rfl).2]; rfl
  | true => rw [h.2 rfl]; rfl
set_option maxHeartbeats 8000000 in
set_option maxRecDepth 100000 in
theorem rcompose_A (q : Nat) (st : St) (a b : Int) (ha0 : -2147483648 ≤ a) (ha1 : a ≤ 2147483647) (hb0 : -2147483648 ≤ b) (hb1 : b ≤ 2147483647) (w : World) (h : RefAt q w st) (h1 : ¬ 4352 ≤ a) (hs : isSyl a = false) : Calls Tryz.prog 59 #[.pointer (some ⟨q, 0, none⟩), .int .i32 a, .int .i32 b] w fun e w' => e = .returned (composeV (if classOf st.d a ≠ 0 then none else least st.d.decomps a b)) ∧ Below w.heap.size w w' := by
  have HR := Lib.hid h
  have HCL := Lib.hid (rclass_calls q st a ha0 ha1 w h)
  have HOK := Lib.hid h.2.1
  have hlm : st.d.decomps.length ≤ 1048576 := h.2.2.2.2.2
  clear h
  generalize classOf st.d a = cl at *
  by_cases hcl : cl = 0
  · have hclb : (cl != 0) = false := by rw [hcl]; rfl
    rw [if_neg (fun e => e hcl)]
    clear hcl
    go_enter Tryz.func59, Tryz.ntmps59
    go_wp2_with (first | (go_at_call 101; (with_reducible refine (syl_calls _ _).mono ?_); rintro e w6 ⟨rfl, hw⟩; subst w6) | (go_at_call 58; (with_reducible refine HCL.out.mono ?_); rintro e w6 ⟨rfl, hw⟩; subst w6))
    go_loopw [8, 9, 10] (fun vl vf vi wr => ∃ (i : Nat) (lv : Int) (fd : Bool), vl = .int .i32 lv ∧ vf = .bool fd ∧ vi = .int .i64 i ∧ i ≤ st.d.decomps.length ∧ Hid (CA st.d.decomps a b i lv fd) ∧ Hid (Below w.heap.size w wr)) (fun _ _ vi _ => st.d.decomps.length - (intOf vi).toNat)
    case atStart => exact ⟨0, 0, false, rfl, rfl, rfl, by omega, Lib.hid ⟨fun _ => ⟨rfl, rfl⟩, fun e => by cases e⟩, Lib.hid (Below.refl _ _)⟩
    case round =>
      obtain ⟨i, lv, fd, rfl, rfl, rfl, hi, HA, HW⟩ := hrel
      rename World => w2
      obtain ⟨A, c, hq3, _, hlc⟩ := (HR.out.on HW.out).decomps
      by_cases hlt : i < st.d.decomps.length
      · obtain ⟨p, hp⟩ : ∃ p, st.d.decomps[i]? = some p := ⟨_, List.getElem?_eq_getElem hlt⟩
        obtain ⟨g, rfl, tv, kk, c0, c1, c2, hpt⟩ := hlc i p hp
        obtain ⟨bt, ot, ct, rfl, hpc⟩ := pts_cell hpt
        obtain ⟨hp0, hp1⟩ := char_bounds (HOK.out.chars p (List.mem_of_getElem? hp)).1
        have HP := Lib.hid hp
        have HWA : Hid (Below w.heap.size w (w2.alloc (.cells #[.int .i64 p.1, .slice (some ⟨bt, ot, none⟩) p.2.length ct, .int .i64 kk] 147))) := Lib.hid (HW.out.alloc HW.out.size _)
        have f1 : (0 : Int) ≤ (i : Int) := by omega
        have f2 : (i : Int) < (st.d.decomps.length : Int) := by omega
        have hcase : (p.2.length ≠ 2 ∧ p.2 ≠ [a, b]) ∨ ∃ u v, p.2 = [u, v] := by
          by_cases hl : p.2.length = 2
          · match hm : p.2, hl with
            | [u, v], _ => exact .inr ⟨u, v, rfl⟩
          · exact .inl ⟨hl, fun e => hl (by rw [e]; rfl)⟩
        clear hlc hp hpt
        obtain ⟨p1, p2⟩ := p
        simp only at c0 c1 hpc hp0 hp1 HP HWA hcase ⊢
        rcases hcase with ⟨hl, hne⟩ | ⟨u, v, rfl⟩
        · have hlb : ((p2.length : Int) == 2) = false := beq_eq_false_iff_ne.2 (by omega)
          have HN := Lib.hid (HA.out.skip HP.out hne)
          clear hpc hl hne
          go_wp2
          go_roundw
          case rel => exact ⟨i + 1, lv, fd, rfl, rfl, by go_num, by omega, HN, HWA⟩
          case measure => simp [intOf]; omega
        · have hu := Lib.cell?_alloc_some (.cells #[.int .i64 p1, .slice (some ⟨bt, ot, none⟩) 2 ct, .int .i64 kk] 147) (hpc 0 u rfl)
          have hv := Lib.cell?_alloc_some (.cells #[.int .i64 p1, .slice (some ⟨bt, ot, none⟩) 2 ct, .int .i64 kk] 147) (hpc 1 v rfl)
          simp only [Nat.add_zero] at hu
          clear hpc
          by_cases hua : u = a
          · by_cases hvb : v = b
            · subst hua
              subst hvb
              cases fd with
              | false =>
                have HN := Lib.hid (HA.out.take HP.out (.inl rfl))
                go_wp2
                go_roundw
                case rel => exact ⟨i + 1, p1, true, rfl, rfl, by go_num, by omega, HN, HWA⟩
                case measure => simp [intOf]; omega
              | true =>
                by_cases hlv : p1 < lv
                · have HN := Lib.hid (HA.out.take HP.out (.inr hlv))
                  go_wp2
                  go_roundw
                  case rel => exact ⟨i + 1, p1, true, rfl, rfl, by go_num, by omega, HN, HWA⟩
                  case measure => simp [intOf]; omega
                · have HN := Lib.hid (HA.out.keep HP.out hlv)
                  go_wp2
                  go_roundw
                  case rel => exact ⟨i + 1, lv, true, rfl, rfl, by go_num, by omega, HN, HWA⟩
                  case measure => simp [intOf]; omega
            · have hvf : (v == b) = false := beq_eq_false_iff_ne.2 hvb
              have HN := Lib.hid (HA.out.skip HP.out (fun e => hvb (by injection e with _ e; injection e)))
              subst hua
              clear hvb
              go_wp2
              go_roundw
              case rel => exact ⟨i + 1, lv, fd, rfl, rfl, by go_num, by omega, HN, HWA⟩
              case measure => simp [intOf]; omega
          · have huf : (u == a) = false := beq_eq_false_iff_ne.2 hua
            have HN := Lib.hid (HA.out.skip HP.out (fun e => hua (by injection e)))
            clear hua
            go_wp2
            go_roundw
            case rel => exact ⟨i + 1, lv, fd, rfl, rfl, by go_num, by omega, HN, HWA⟩
            case measure => simp [intOf]; omega
      · have hie : i = st.d.decomps.length := by omega
        subst hie
        have HL : Hid (composeV (least st.d.decomps a b) = .tuple #[.int .i32 lv, .bool fd]) := Lib.hid (by
          rw [← accL_all]
          exact HA.out.out)
        clear hlc
        go_wp2
        go_ret2
        rw [HL.out]
        exact ⟨rfl, HW.out⟩
  · have hclb : (cl != 0) = true := bne_iff_ne.2 hcl
    rw [if_pos hcl]
    clear hcl
    go_enter Tryz.func59, Tryz.ntmps59
    go_wp2_with (first | (go_at_call 101; (with_reducible refine (syl_calls _ _).mono ?_); rintro e w6 ⟨rfl, hw⟩; subst w6) | (go_at_call 58; (with_reducible refine HCL.out.mono ?_); rintro e w6 ⟨rfl, hw⟩; subst w6))
    go_ret2
    exact ⟨rfl, Below.refl _ _⟩
set_option maxHeartbeats 8000000 in
set_option maxRecDepth 100000 in
theorem rcompose_B (q : Nat) (st : St) (a b : Int) (ha0 : -2147483648 ≤ a) (ha1 : a ≤ 2147483647) (hb0 : -2147483648 ≤ b) (hb1 : b ≤ 2147483647) (w : World) (h : RefAt q w st) (h1 : 4352 ≤ a) (h2 : ¬ a ≤ 4370) (hs : isSyl a = false) : Calls Tryz.prog 59 #[.pointer (some ⟨q, 0, none⟩), .int .i32 a, .int .i32 b] w fun e w' => e = .returned (composeV (if classOf st.d a ≠ 0 then none else least st.d.decomps a b)) ∧ Below w.heap.size w w' := by
  have HR := Lib.hid h
  have HCL := Lib.hid (rclass_calls q st a ha0 ha1 w h)
  have HOK := Lib.hid h.2.1
  have hlm : st.d.decomps.length ≤ 1048576 := h.2.2.2.2.2
  clear h
  generalize classOf st.d a = cl at *
  by_cases hcl : cl = 0
  · have hclb : (cl != 0) = false := by rw [hcl]; rfl
    rw [if_neg (fun e => e hcl)]
    clear hcl
    go_enter Tryz.func59, Tryz.ntmps59
    go_wp2_with (first | (go_at_call 101; (with_reducible refine (syl_calls _ _).mono ?_); rintro e w6 ⟨rfl, hw⟩; subst w6) | (go_at_call 58; (with_reducible refine HCL.out.mono ?_); rintro e w6 ⟨rfl, hw⟩; subst w6))
    go_loopw [8, 9, 10] (fun vl vf vi wr => ∃ (i : Nat) (lv : Int) (fd : Bool), vl = .int .i32 lv ∧ vf = .bool fd ∧ vi = .int .i64 i ∧ i ≤ st.d.decomps.length ∧ Hid (CA st.d.decomps a b i lv fd) ∧ Hid (Below w.heap.size w wr)) (fun _ _ vi _ => st.d.decomps.length - (intOf vi).toNat)
    case atStart => exact ⟨0, 0, false, rfl, rfl, rfl, by omega, Lib.hid ⟨fun _ => ⟨rfl, rfl⟩, fun e => by cases e⟩, Lib.hid (Below.refl _ _)⟩
    case round =>
      obtain ⟨i, lv, fd, rfl, rfl, rfl, hi, HA, HW⟩ := hrel
      rename World => w2
      obtain ⟨A, c, hq3, _, hlc⟩ := (HR.out.on HW.out).decomps
      by_cases hlt : i < st.d.decomps.length
      · obtain ⟨p, hp⟩ : ∃ p, st.d.decomps[i]? = some p := ⟨_, List.getElem?_eq_getElem hlt⟩
        obtain ⟨g, rfl, tv, kk, c0, c1, c2, hpt⟩ := hlc i p hp
        obtain ⟨bt, ot, ct, rfl, hpc⟩ := pts_cell hpt
        obtain ⟨hp0, hp1⟩ := char_bounds (HOK.out.chars p (List.mem_of_getElem? hp)).1
        have HP := Lib.hid hp
        have HWA : Hid (Below w.heap.size w (w2.alloc (.cells #[.int .i64 p.1, .slice (some ⟨bt, ot, none⟩) p.2.length ct, .int .i64 kk] 147))) := Lib.hid (HW.out.alloc HW.out.size _)
        have f1 : (0 : Int) ≤ (i : Int) := by omega
        have f2 : (i : Int) < (st.d.decomps.length : Int) := by omega
        have hcase : (p.2.length ≠ 2 ∧ p.2 ≠ [a, b]) ∨ ∃ u v, p.2 = [u, v] := by
          by_cases hl : p.2.length = 2
          · match hm : p.2, hl with
            | [u, v], _ => exact .inr ⟨u, v, rfl⟩
          · exact .inl ⟨hl, fun e => hl (by rw [e]; rfl)⟩
        clear hlc hp hpt
        obtain ⟨p1, p2⟩ := p
        simp only at c0 c1 hpc hp0 hp1 HP HWA hcase ⊢
        rcases hcase with ⟨hl, hne⟩ | ⟨u, v, rfl⟩
        · have hlb : ((p2.length : Int) == 2) = false := beq_eq_false_iff_ne.2 (by omega)
          have HN := Lib.hid (HA.out.skip HP.out hne)
          clear hpc hl hne
          go_wp2
          go_roundw
          case rel => exact ⟨i + 1, lv, fd, rfl, rfl, by go_num, by omega, HN, HWA⟩
          case measure => simp [intOf]; omega
        · have hu := Lib.cell?_alloc_some (.cells #[.int .i64 p1, .slice (some ⟨bt, ot, none⟩) 2 ct, .int .i64 kk] 147) (hpc 0 u rfl)
          have hv := Lib.cell?_alloc_some (.cells #[.int .i64 p1, .slice (some ⟨bt, ot, none⟩) 2 ct, .int .i64 kk] 147) (hpc 1 v rfl)
          simp only [Nat.add_zero] at hu
          clear hpc
          by_cases hua : u = a
          · by_cases hvb : v = b
            · subst hua
              subst hvb
              cases fd with
              | false =>
                have HN := Lib.hid (HA.out.take HP.out (.inl rfl))
                go_wp2
                go_roundw
                case rel => exact ⟨i + 1, p1, true, rfl, rfl, by go_num, by omega, HN, HWA⟩
                case measure => simp [intOf]; omega
              | true =>
                by_cases hlv : p1 < lv
                · have HN := Lib.hid (HA.out.take HP.out (.inr hlv))
                  go_wp2
                  go_roundw
                  case rel => exact ⟨i + 1, p1, true, rfl, rfl, by go_num, by omega, HN, HWA⟩
                  case measure => simp [intOf]; omega
                · have HN := Lib.hid (HA.out.keep HP.out hlv)
                  go_wp2
                  go_roundw
                  case rel => exact ⟨i + 1, lv, true, rfl, rfl, by go_num, by omega, HN, HWA⟩
                  case measure => simp [intOf]; omega
            · have hvf : (v == b) = false := beq_eq_false_iff_ne.2 hvb
              have HN := Lib.hid (HA.out.skip HP.out (fun e => hvb (by injection e with _ e; injection e)))
              subst hua
              clear hvb
              go_wp2
              go_roundw
              case rel => exact ⟨i + 1, lv, fd, rfl, rfl, by go_num, by omega, HN, HWA⟩
              case measure => simp [intOf]; omega
          · have huf : (u == a) = false := beq_eq_false_iff_ne.2 hua
            have HN := Lib.hid (HA.out.skip HP.out (fun e => hua (by injection e)))
            clear hua
            go_wp2
            go_roundw
            case rel => exact ⟨i + 1, lv, fd, rfl, rfl, by go_num, by omega, HN, HWA⟩
            case measure => simp [intOf]; omega
      · have hie : i = st.d.decomps.length := by omega
        subst hie
        have HL : Hid (composeV (least st.d.decomps a b) = .tuple #[.int .i32 lv, .bool fd]) := Lib.hid (by
          rw [← accL_all]
          exact HA.out.out)
        clear hlc
        go_wp2
        go_ret2
        rw [HL.out]
        exact ⟨rfl, HW.out⟩
  · have hclb : (cl != 0) = true := bne_iff_ne.2 hcl
    rw [if_pos hcl]
    clear hcl
    go_enter Tryz.func59, Tryz.ntmps59
    go_wp2_with (first | (go_at_call 101; (with_reducible refine (syl_calls _ _).mono ?_); rintro e w6 ⟨rfl, hw⟩; subst w6) | (go_at_call 58; (with_reducible refine HCL.out.mono ?_); rintro e w6 ⟨rfl, hw⟩; subst w6))
    go_ret2
    exact ⟨rfl, Below.refl _ _⟩
set_option maxHeartbeats 8000000 in
set_option maxRecDepth 100000 in
theorem rcompose_C (q : Nat) (st : St) (a b : Int) (ha0 : -2147483648 ≤ a) (ha1 : a ≤ 2147483647) (hb0 : -2147483648 ≤ b) (hb1 : b ≤ 2147483647) (w : World) (h : RefAt q w st) (h1 : 4352 ≤ a) (h2 : a ≤ 4370) (h3 : ¬ 4449 ≤ b) (hs : isSyl a = false) : Calls Tryz.prog 59 #[.pointer (some ⟨q, 0, none⟩), .int .i32 a, .int .i32 b] w fun e w' => e = .returned (composeV (if classOf st.d a ≠ 0 then none else least st.d.decomps a b)) ∧ Below w.heap.size w w' := by
  have HR := Lib.hid h
  have HCL := Lib.hid (rclass_calls q st a ha0 ha1 w h)
  have HOK := Lib.hid h.2.1
  have hlm : st.d.decomps.length ≤ 1048576 := h.2.2.2.2.2
  clear h
  generalize classOf st.d a = cl at *
  by_cases hcl : cl = 0
  · have hclb : (cl != 0) = false := by rw [hcl]; rfl
    rw [if_neg (fun e => e hcl)]
    clear hcl
    go_enter Tryz.func59, Tryz.ntmps59
    go_wp2_with (first | (go_at_call 101; (with_reducible refine (syl_calls _ _).mono ?_); rintro e w6 ⟨rfl, hw⟩; subst w6) | (go_at_call 58; (with_reducible refine HCL.out.mono ?_); rintro e w6 ⟨rfl, hw⟩; subst w6))
    go_loopw [8, 9, 10] (fun vl vf vi wr => ∃ (i : Nat) (lv : Int) (fd : Bool), vl = .int .i32 lv ∧ vf = .bool fd ∧ vi = .int .i64 i ∧ i ≤ st.d.decomps.length ∧ Hid (CA st.d.decomps a b i lv fd) ∧ Hid (Below w.heap.size w wr)) (fun _ _ vi _ => st.d.decomps.length - (intOf vi).toNat)
    case atStart => exact ⟨0, 0, false, rfl, rfl, rfl, by omega, Lib.hid ⟨fun _ => ⟨rfl, rfl⟩, fun e => by cases e⟩, Lib.hid (Below.refl _ _)⟩
    case round =>
      obtain ⟨i, lv, fd, rfl, rfl, rfl, hi, HA, HW⟩ := hrel
      rename World => w2
      obtain ⟨A, c, hq3, _, hlc⟩ := (HR.out.on HW.out).decomps
      by_cases hlt : i < st.d.decomps.length
      · obtain ⟨p, hp⟩ : ∃ p, st.d.decomps[i]? = some p := ⟨_, List.getElem?_eq_getElem hlt⟩
        obtain ⟨g, rfl, tv, kk, c0, c1, c2, hpt⟩ := hlc i p hp
        obtain ⟨bt, ot, ct, rfl, hpc⟩ := pts_cell hpt
        obtain ⟨hp0, hp1⟩ := char_bounds (HOK.out.chars p (List.mem_of_getElem? hp)).1
        have HP := Lib.hid hp
        have HWA : Hid (Below w.heap.size w (w2.alloc (.cells #[.int .i64 p.1, .slice (some ⟨bt, ot, none⟩) p.2.length ct, .int .i64 kk] 147))) := Lib.hid (HW.out.alloc HW.out.size _)
        have f1 : (0 : Int) ≤ (i : Int) := by omega
        have f2 : (i : Int) < (st.d.decomps.length : Int) := by omega
        have hcase : (p.2.length ≠ 2 ∧ p.2 ≠ [a, b]) ∨ ∃ u v, p.2 = [u, v] := by
          by_cases hl : p.2.length = 2
          · match hm : p.2, hl with
            | [u, v], _ => exact .inr ⟨u, v, rfl⟩
          · exact .inl ⟨hl, fun e => hl (by rw [e]; rfl)⟩
        clear hlc hp hpt
        obtain ⟨p1, p2⟩ := p
        simp only at c0 c1 hpc hp0 hp1 HP HWA hcase ⊢
        rcases hcase with ⟨hl, hne⟩ | ⟨u, v, rfl⟩
        · have hlb : ((p2.length : Int) == 2) = false := beq_eq_false_iff_ne.2 (by omega)
          have HN := Lib.hid (HA.out.skip HP.out hne)
          clear hpc hl hne
          go_wp2
          go_roundw
          case rel => exact ⟨i + 1, lv, fd, rfl, rfl, by go_num, by omega, HN, HWA⟩
          case measure => simp [intOf]; omega
        · have hu := Lib.cell?_alloc_some (.cells #[.int .i64 p1, .slice (some ⟨bt, ot, none⟩) 2 ct, .int .i64 kk] 147) (hpc 0 u rfl)
          have hv := Lib.cell?_alloc_some (.cells #[.int .i64 p1, .slice (some ⟨bt, ot, none⟩) 2 ct, .int .i64 kk] 147) (hpc 1 v rfl)
          simp only [Nat.add_zero] at hu
          clear hpc
          by_cases hua : u = a
          · by_cases hvb : v = b
            · subst hua
              subst hvb
              cases fd with
              | false =>
                have HN := Lib.hid (HA.out.take HP.out (.inl rfl))
                go_wp2
                go_roundw
                case rel => exact ⟨i + 1, p1, true, rfl, rfl, by go_num, by omega, HN, HWA⟩
                case measure => simp [intOf]; omega
              | true =>
                by_cases hlv : p1 < lv
                · have HN := Lib.hid (HA.out.take HP.out (.inr hlv))
                  go_wp2
                  go_roundw
                  case rel => exact ⟨i + 1, p1, true, rfl, rfl, by go_num, by omega, HN, HWA⟩
                  case measure => simp [intOf]; omega
                · have HN := Lib.hid (HA.out.keep HP.out hlv)
                  go_wp2
                  go_roundw
                  case rel => exact ⟨i + 1, lv, true, rfl, rfl, by go_num, by omega, HN, HWA⟩
                  case measure => simp [intOf]; omega
            · have hvf : (v == b) = false := beq_eq_false_iff_ne.2 hvb
              have HN := Lib.hid (HA.out.skip HP.out (fun e => hvb (by injection e with _ e; injection e)))
              subst hua
              clear hvb
              go_wp2
              go_roundw
              case rel => exact ⟨i + 1, lv, fd, rfl, rfl, by go_num, by omega, HN, HWA⟩
              case measure => simp [intOf]; omega
          · have huf : (u == a) = false := beq_eq_false_iff_ne.2 hua
            have HN := Lib.hid (HA.out.skip HP.out (fun e => hua (by injection e)))
            clear hua
            go_wp2
            go_roundw
            case rel => exact ⟨i + 1, lv, fd, rfl, rfl, by go_num, by omega, HN, HWA⟩
            case measure => simp [intOf]; omega
      · have hie : i = st.d.decomps.length := by omega
        subst hie
        have HL : Hid (composeV (least st.d.decomps a b) = .tuple #[.int .i32 lv, .bool fd]) := Lib.hid (by
          rw [← accL_all]
          exact HA.out.out)
        clear hlc
        go_wp2
        go_ret2
        rw [HL.out]
        exact ⟨rfl, HW.out⟩
  · have hclb : (cl != 0) = true := bne_iff_ne.2 hcl
    rw [if_pos hcl]
    clear hcl
    go_enter Tryz.func59, Tryz.ntmps59
    go_wp2_with (first | (go_at_call 101; (with_reducible refine (syl_calls _ _).mono ?_); rintro e w6 ⟨rfl, hw⟩; subst w6) | (go_at_call 58; (with_reducible refine HCL.out.mono ?_); rintro e w6 ⟨rfl, hw⟩; subst w6))
    go_ret2
    exact ⟨rfl, Below.refl _ _⟩
set_option maxHeartbeats 8000000 in
set_option maxRecDepth 100000 in
theorem rcompose_D (q : Nat) (st : St) (a b : Int) (ha0 : -2147483648 ≤ a) (ha1 : a ≤ 2147483647) (hb0 : -2147483648 ≤ b) (hb1 : b ≤ 2147483647) (w : World) (h : RefAt q w st) (h1 : 4352 ≤ a) (h2 : a ≤ 4370) (h3 : 4449 ≤ b) (h4 : ¬ b ≤ 4469) (hs : isSyl a = false) : Calls Tryz.prog 59 #[.pointer (some ⟨q, 0, none⟩), .int .i32 a, .int .i32 b] w fun e w' => e = .returned (composeV (if classOf st.d a ≠ 0 then none else least st.d.decomps a b)) ∧ Below w.heap.size w w' := by
  have HR := Lib.hid h
  have HCL := Lib.hid (rclass_calls q st a ha0 ha1 w h)
  have HOK := Lib.hid h.2.1
  have hlm : st.d.decomps.length ≤ 1048576 := h.2.2.2.2.2
  clear h
  generalize classOf st.d a = cl at *
  by_cases hcl : cl = 0
  · have hclb : (cl != 0) = false := by rw [hcl]; rfl
    rw [if_neg (fun e => e hcl)]
    clear hcl
    go_enter Tryz.func59, Tryz.ntmps59
    go_wp2_with (first | (go_at_call 101; (with_reducible refine (syl_calls _ _).mono ?_); rintro e w6 ⟨rfl, hw⟩; subst w6) | (go_at_call 58; (with_reducible refine HCL.out.mono ?_); rintro e w6 ⟨rfl, hw⟩; subst w6))
    go_loopw [8, 9, 10] (fun vl vf vi wr => ∃ (i : Nat) (lv : Int) (fd : Bool), vl = .int .i32 lv ∧ vf = .bool fd ∧ vi = .int .i64 i ∧ i ≤ st.d.decomps.length ∧ Hid (CA st.d.decomps a b i lv fd) ∧ Hid (Below w.heap.size w wr)) (fun _ _ vi _ => st.d.decomps.length - (intOf vi).toNat)
    case atStart => exact ⟨0, 0, false, rfl, rfl, rfl, by omega, Lib.hid ⟨fun _ => ⟨rfl, rfl⟩, fun e => by cases e⟩, Lib.hid (Below.refl _ _)⟩
    case round =>
      obtain ⟨i, lv, fd, rfl, rfl, rfl, hi, HA, HW⟩ := hrel
      rename World => w2
      obtain ⟨A, c, hq3, _, hlc⟩ := (HR.out.on HW.out).decomps
      by_cases hlt : i < st.d.decomps.length
      · obtain ⟨p, hp⟩ : ∃ p, st.d.decomps[i]? = some p := ⟨_, List.getElem?_eq_getElem hlt⟩
        obtain ⟨g, rfl, tv, kk, c0, c1, c2, hpt⟩ := hlc i p hp
        obtain ⟨bt, ot, ct, rfl, hpc⟩ := pts_cell hpt
        obtain ⟨hp0, hp1⟩ := char_bounds (HOK.out.chars p (List.mem_of_getElem? hp)).1
        have HP := Lib.hid hp
        have HWA : Hid (Below w.heap.size w (w2.alloc (.cells #[.int .i64 p.1, .slice (some ⟨bt, ot, none⟩) p.2.length ct, .int .i64 kk] 147))) := Lib.hid (HW.out.alloc HW.out.size _)
        have f1 : (0 : Int) ≤ (i : Int) := by omega
        have f2 : (i : Int) < (st.d.decomps.length : Int) := by omega
        have hcase : (p.2.length ≠ 2 ∧ p.2 ≠ [a, b]) ∨ ∃ u v, p.2 = [u, v] := by
          by_cases hl : p.2.length = 2
          · match hm : p.2, hl with
            | [u, v], _ => exact .inr ⟨u, v, rfl⟩
          · exact .inl ⟨hl, fun e => hl (by rw [e]; rfl)⟩
        clear hlc hp hpt
        obtain ⟨p1, p2⟩ := p
        simp only at c0 c1 hpc hp0 hp1 HP HWA hcase ⊢
        rcases hcase with ⟨hl, hne⟩ | ⟨u, v, rfl⟩
        · have hlb : ((p2.length : Int) == 2) = false := beq_eq_false_iff_ne.2 (by omega)
          have HN := Lib.hid (HA.out.skip HP.out hne)
          clear hpc hl hne
          go_wp2
          go_roundw
          case rel => exact ⟨i + 1, lv, fd, rfl, rfl, by go_num, by omega, HN, HWA⟩
          case measure => simp [intOf]; omega
        · have hu := Lib.cell?_alloc_some (.cells #[.int .i64 p1, .slice (some ⟨bt, ot, none⟩) 2 ct, .int .i64 kk] 147) (hpc 0 u rfl)
          have hv := Lib.cell?_alloc_some (.cells #[.int .i64 p1, .slice (some ⟨bt, ot, none⟩) 2 ct, .int .i64 kk] 147) (hpc 1 v rfl)
          simp only [Nat.add_zero] at hu
          clear hpc
          by_cases hua : u = a
          · by_cases hvb : v = b
            · subst hua
              subst hvb
              cases fd with
              | false =>
                have HN := Lib.hid (HA.out.take HP.out (.inl rfl))
                go_wp2
                go_roundw
                case rel => exact ⟨i + 1, p1, true, rfl, rfl, by go_num, by omega, HN, HWA⟩
                case measure => simp [intOf]; omega
              | true =>
                by_cases hlv : p1 < lv
                · have HN := Lib.hid (HA.out.take HP.out (.inr hlv))
                  go_wp2
                  go_roundw
                  case rel => exact ⟨i + 1, p1, true, rfl, rfl, by go_num, by omega, HN, HWA⟩
                  case measure => simp [intOf]; omega
                · have HN := Lib.hid (HA.out.keep HP.out hlv)
                  go_wp2
                  go_roundw
                  case rel => exact ⟨i + 1, lv, true, rfl, rfl, by go_num, by omega, HN, HWA⟩
                  case measure => simp [intOf]; omega
            · have hvf : (v == b) = false := beq_eq_false_iff_ne.2 hvb
              have HN := Lib.hid (HA.out.skip HP.out (fun e => hvb (by injection e with _ e; injection e)))
              subst hua
              clear hvb
              go_wp2
              go_roundw
              case rel => exact ⟨i + 1, lv, fd, rfl, rfl, by go_num, by omega, HN, HWA⟩
              case measure => simp [intOf]; omega
          · have huf : (u == a) = false := beq_eq_false_iff_ne.2 hua
            have HN := Lib.hid (HA.out.skip HP.out (fun e => hua (by injection e)))
            clear hua
            go_wp2
            go_roundw
            case rel => exact ⟨i + 1, lv, fd, rfl, rfl, by go_num, by omega, HN, HWA⟩
            case measure => simp [intOf]; omega
      · have hie : i = st.d.decomps.length := by omega
        subst hie
        have HL : Hid (composeV (least st.d.decomps a b) = .tuple #[.int .i32 lv, .bool fd]) := Lib.hid (by
          rw [← accL_all]
          exact HA.out.out)
        clear hlc
        go_wp2
        go_ret2
        rw [HL.out]
        exact ⟨rfl, HW.out⟩
  · have hclb : (cl != 0) = true := bne_iff_ne.2 hcl
    rw [if_pos hcl]
    clear hcl
    go_enter Tryz.func59, Tryz.ntmps59
    go_wp2_with (first | (go_at_call 101; (with_reducible refine (syl_calls _ _).mono ?_); rintro e w6 ⟨rfl, hw⟩; subst w6) | (go_at_call 58; (with_reducible refine HCL.out.mono ?_); rintro e w6 ⟨rfl, hw⟩; subst w6))
    go_ret2
    exact ⟨rfl, Below.refl _ _⟩
set_option maxHeartbeats 8000000 in
set_option maxRecDepth 100000 in
theorem rcompose_E (q : Nat) (st : St) (a b : Int) (ha0 : -2147483648 ≤ a) (ha1 : a ≤ 2147483647) (hb0 : -2147483648 ≤ b) (hb1 : b ≤ 2147483647) (w : World) (h : RefAt q w st) (hs : isSyl a = true) (hm : (a - 44032) % 28 ≠ 0) : Calls Tryz.prog 59 #[.pointer (some ⟨q, 0, none⟩), .int .i32 a, .int .i32 b] w fun e w' => e = .returned (composeV (if classOf st.d a ≠ 0 then none else least st.d.decomps a b)) ∧ Below w.heap.size w w' := by
  have HR := Lib.hid h
  have HCL := Lib.hid (rclass_calls q st a ha0 ha1 w h)
  have HOK := Lib.hid h.2.1
  have hlm : st.d.decomps.length ≤ 1048576 := h.2.2.2.2.2
  clear h
  have h0 : 44032 ≤ a ∧ a < 55204 := by simpa [isSyl] using hs
  obtain ⟨g1, g2⟩ := h0
  have g3 : ¬ a ≤ 4370 := by omega
  have hb28 : ((a - 44032) % 28 == 0) = false := beq_eq_false_iff_ne.2 hm
  clear hm
  generalize classOf st.d a = cl at *
  by_cases hcl : cl = 0
  · have hclb : (cl != 0) = false := by rw [hcl]; rfl
    rw [if_neg (fun e => e hcl)]
    clear hcl
    go_enter Tryz.func59, Tryz.ntmps59
    go_wp2_with (first | (go_at_call 101; (with_reducible refine (syl_calls _ _).mono ?_); rintro e w6 ⟨rfl, hw⟩; subst w6) | (go_at_call 58; (with_reducible refine HCL.out.mono ?_); rintro e w6 ⟨rfl, hw⟩; subst w6))
    go_loopw [8, 9, 10] (fun vl vf vi wr => ∃ (i : Nat) (lv : Int) (fd : Bool), vl = .int .i32 lv ∧ vf = .bool fd ∧ vi = .int .i64 i ∧ i ≤ st.d.decomps.length ∧ Hid (CA st.d.decomps a b i lv fd) ∧ Hid (Below w.heap.size w wr)) (fun _ _ vi _ => st.d.decomps.length - (intOf vi).toNat)
    case atStart => exact ⟨0, 0, false, rfl, rfl, rfl, by omega, Lib.hid ⟨fun _ => ⟨rfl, rfl⟩, fun e => by cases e⟩, Lib.hid (Below.refl _ _)⟩
    case round =>
      obtain ⟨i, lv, fd, rfl, rfl, rfl, hi, HA, HW⟩ := hrel
      rename World => w2
      obtain ⟨A, c, hq3, _, hlc⟩ := (HR.out.on HW.out).decomps
      by_cases hlt : i < st.d.decomps.length
      · obtain ⟨p, hp⟩ : ∃ p, st.d.decomps[i]? = some p := ⟨_, List.getElem?_eq_getElem hlt⟩
        obtain ⟨g, rfl, tv, kk, c0, c1, c2, hpt⟩ := hlc i p hp
        obtain ⟨bt, ot, ct, rfl, hpc⟩ := pts_cell hpt
        obtain ⟨hp0, hp1⟩ := char_bounds (HOK.out.chars p (List.mem_of_getElem? hp)).1
        have HP := Lib.hid hp
        have HWA : Hid (Below w.heap.size w (w2.alloc (.cells #[.int .i64 p.1, .slice (some ⟨bt, ot, none⟩) p.2.length ct, .int .i64 kk] 147))) := Lib.hid (HW.out.alloc HW.out.size _)
        have f1 : (0 : Int) ≤ (i : Int) := by omega
        have f2 : (i : Int) < (st.d.decomps.length : Int) := by omega
        have hcase : (p.2.length ≠ 2 ∧ p.2 ≠ [a, b]) ∨ ∃ u v, p.2 = [u, v] := by
          by_cases hl : p.2.length = 2
          · match hm : p.2, hl with
            | [u, v], _ => exact .inr ⟨u, v, rfl⟩
          · exact .inl ⟨hl, fun e => hl (by rw [e]; rfl)⟩
        clear hlc hp hpt
        obtain ⟨p1, p2⟩ := p
        simp only at c0 c1 hpc hp0 hp1 HP HWA hcase ⊢
        rcases hcase with ⟨hl, hne⟩ | ⟨u, v, rfl⟩
        · have hlb : ((p2.length : Int) == 2) = false := beq_eq_false_iff_ne.2 (by omega)
          have HN := Lib.hid (HA.out.skip HP.out hne)
          clear hpc hl hne
          go_wp2
          go_roundw
          case rel => exact ⟨i + 1, lv, fd, rfl, rfl, by go_num, by omega, HN, HWA⟩
          case measure => simp [intOf]; omega
        · have hu := Lib.cell?_alloc_some (.cells #[.int .i64 p1, .slice (some ⟨bt, ot, none⟩) 2 ct, .int .i64 kk] 147) (hpc 0 u rfl)
          have hv := Lib.cell?_alloc_some (.cells #[.int .i64 p1, .slice (some ⟨bt, ot, none⟩) 2 ct, .int .i64 kk] 147) (hpc 1 v rfl)
          simp only [Nat.add_zero] at hu
          clear hpc
          by_cases hua : u = a
          · by_cases hvb : v = b
            · subst hua
              subst hvb
              cases fd with
              | false =>
                have HN := Lib.hid (HA.out.take HP.out (.inl rfl))
                go_wp2
                go_roundw
                case rel => exact ⟨i + 1, p1, true, rfl, rfl, by go_num, by omega, HN, HWA⟩
                case measure => simp [intOf]; omega
              | true =>
                by_cases hlv : p1 < lv
                · have HN := Lib.hid (HA.out.take HP.out (.inr hlv))
                  go_wp2
                  go_roundw
                  case rel => exact ⟨i + 1, p1, true, rfl, rfl, by go_num, by omega, HN, HWA⟩
                  case measure => simp [intOf]; omega
                · have HN := Lib.hid (HA.out.keep HP.out hlv)
                  go_wp2
                  go_roundw
                  case rel => exact ⟨i + 1, lv, true, rfl, rfl, by go_num, by omega, HN, HWA⟩
                  case measure => simp [intOf]; omega
            · have hvf : (v == b) = false := beq_eq_false_iff_ne.2 hvb
              have HN := Lib.hid (HA.out.skip HP.out (fun e => hvb (by injection e with _ e; injection e)))
              subst hua
              clear hvb
              go_wp2
              go_roundw
              case rel => exact ⟨i + 1, lv, fd, rfl, rfl, by go_num, by omega, HN, HWA⟩
              case measure => simp [intOf]; omega
          · have huf : (u == a) = false := beq_eq_false_iff_ne.2 hua
            have HN := Lib.hid (HA.out.skip HP.out (fun e => hua (by injection e)))
            clear hua
            go_wp2
            go_roundw
            case rel => exact ⟨i + 1, lv, fd, rfl, rfl, by go_num, by omega, HN, HWA⟩
            case measure => simp [intOf]; omega
      · have hie : i = st.d.decomps.length := by omega
        subst hie
        have HL : Hid (composeV (least st.d.decomps a b) = .tuple #[.int .i32 lv, .bool fd]) := Lib.hid (by
          rw [← accL_all]
          exact HA.out.out)
        clear hlc
        go_wp2
        go_ret2
        rw [HL.out]
        exact ⟨rfl, HW.out⟩
  · have hclb : (cl != 0) = true := bne_iff_ne.2 hcl
    rw [if_pos hcl]
    clear hcl
    go_enter Tryz.func59, Tryz.ntmps59
    go_wp2_with (first | (go_at_call 101; (with_reducible refine (syl_calls _ _).mono ?_); rintro e w6 ⟨rfl, hw⟩; subst w6) | (go_at_call 58; (with_reducible refine HCL.out.mono ?_); rintro e w6 ⟨rfl, hw⟩; subst w6))
    go_ret2
    exact ⟨rfl, Below.refl _ _⟩
set_option maxHeartbeats 8000000 in
set_option maxRecDepth 100000 in
theorem rcompose_F (q : Nat) (st : St) (a b : Int) (ha0 : -2147483648 ≤ a) (ha1 : a ≤ 2147483647) (hb0 : -2147483648 ≤ b) (hb1 : b ≤ 2147483647) (w : World) (h : RefAt q w st) (hs : isSyl a = true) (hm : (a - 44032) % 28 = 0) (h5 : ¬ 4520 ≤ b) : Calls Tryz.prog 59 #[.pointer (some ⟨q, 0, none⟩), .int .i32 a, .int .i32 b] w fun e w' => e = .returned (composeV (if classOf st.d a ≠ 0 then none else least st.d.decomps a b)) ∧ Below w.heap.size w w' := by
  have HR := Lib.hid h
  have HCL := Lib.hid (rclass_calls q st a ha0 ha1 w h)
  have HOK := Lib.hid h.2.1
  have hlm : st.d.decomps.length ≤ 1048576 := h.2.2.2.2.2
  clear h
  have h0 : 44032 ≤ a ∧ a < 55204 := by simpa [isSyl] using hs
  obtain ⟨g1, g2⟩ := h0
  have g3 : ¬ a ≤ 4370 := by omega
  have hb28 : ((a - 44032) % 28 == 0) = true := by rw [hm]; rfl
  clear hm
  generalize classOf st.d a = cl at *
  by_cases hcl : cl = 0
  · have hclb : (cl != 0) = false := by rw [hcl]; rfl
    rw [if_neg (fun e => e hcl)]
    clear hcl
    go_enter Tryz.func59, Tryz.ntmps59
    go_wp2_with (first | (go_at_call 101; (with_reducible refine (syl_calls _ _).mono ?_); rintro e w6 ⟨rfl, hw⟩; subst w6) | (go_at_call 58; (with_reducible refine HCL.out.mono ?_); rintro e w6 ⟨rfl, hw⟩; subst w6))
    go_loopw [8, 9, 10] (fun vl vf vi wr => ∃ (i : Nat) (lv : Int) (fd : Bool), vl = .int .i32 lv ∧ vf = .bool fd ∧ vi = .int .i64 i ∧ i ≤ st.d.decomps.length ∧ Hid (CA st.d.decomps a b i lv fd) ∧ Hid (Below w.heap.size w wr)) (fun _ _ vi _ => st.d.decomps.length - (intOf vi).toNat)
    case atStart => exact ⟨0, 0, false, rfl, rfl, rfl, by omega, Lib.hid ⟨fun _ => ⟨rfl, rfl⟩, fun e => by cases e⟩, Lib.hid (Below.refl _ _)⟩
    case round =>
      obtain ⟨i, lv, fd, rfl, rfl, rfl, hi, HA, HW⟩ := hrel
      rename World => w2
      obtain ⟨A, c, hq3, _, hlc⟩ := (HR.out.on HW.out).decomps
      by_cases hlt : i < st.d.decomps.length
      · obtain ⟨p, hp⟩ : ∃ p, st.d.decomps[i]? = some p := ⟨_, List.getElem?_eq_getElem hlt⟩
        obtain ⟨g, rfl, tv, kk, c0, c1, c2, hpt⟩ := hlc i p hp
        obtain ⟨bt, ot, ct, rfl, hpc⟩ := pts_cell hpt
        obtain ⟨hp0, hp1⟩ := char_bounds (HOK.out.chars p (List.mem_of_getElem? hp)).1
        have HP := Lib.hid hp
        have HWA : Hid (Below w.heap.size w (w2.alloc (.cells #[.int .i64 p.1, .slice (some ⟨bt, ot, none⟩) p.2.length ct, .int .i64 kk] 147))) := Lib.hid (HW.out.alloc HW.out.size _)
        have f1 : (0 : Int) ≤ (i : Int) := by omega
        have f2 : (i : Int) < (st.d.decomps.length : Int) := by omega
        have hcase : (p.2.length ≠ 2 ∧ p.2 ≠ [a, b]) ∨ ∃ u v, p.2 = [u, v] := by
          by_cases hl : p.2.length = 2
          · match hm : p.2, hl with
            | [u, v], _ => exact .inr ⟨u, v, rfl⟩
          · exact .inl ⟨hl, fun e => hl (by rw [e]; rfl)⟩
        clear hlc hp hpt
        obtain ⟨p1, p2⟩ := p
        simp only at c0 c1 hpc hp0 hp1 HP HWA hcase ⊢
        rcases hcase with ⟨hl, hne⟩ | ⟨u, v, rfl⟩
        · have hlb : ((p2.length : Int) == 2) = false := beq_eq_false_iff_ne.2 (by omega)
          have HN := Lib.hid (HA.out.skip HP.out hne)
          clear hpc hl hne
          go_wp2
          go_roundw
          case rel => exact ⟨i + 1, lv, fd, rfl, rfl, by go_num, by omega, HN, HWA⟩
          case measure => simp [intOf]; omega
        · have hu := Lib.cell?_alloc_some (.cells #[.int .i64 p1, .slice (some ⟨bt, ot, none⟩) 2 ct, .int .i64 kk] 147) (hpc 0 u rfl)
          have hv := Lib.cell?_alloc_some (.cells #[.int .i64 p1, .slice (some ⟨bt, ot, none⟩) 2 ct, .int .i64 kk] 147) (hpc 1 v rfl)
          simp only [Nat.add_zero] at hu
          clear hpc
          by_cases hua : u = a
          · by_cases hvb : v = b
            · subst hua
              subst hvb
              cases fd with
              | false =>
                have HN := Lib.hid (HA.out.take HP.out (.inl rfl))
                go_wp2
                go_roundw
                case rel => exact ⟨i + 1, p1, true, rfl, rfl, by go_num, by omega, HN, HWA⟩
                case measure => simp [intOf]; omega
              | true =>
                by_cases hlv : p1 < lv
                · have HN := Lib.hid (HA.out.take HP.out (.inr hlv))
                  go_wp2
                  go_roundw
                  case rel => exact ⟨i + 1, p1, true, rfl, rfl, by go_num, by omega, HN, HWA⟩
                  case measure => simp [intOf]; omega
                · have HN := Lib.hid (HA.out.keep HP.out hlv)
                  go_wp2
                  go_roundw
                  case rel => exact ⟨i + 1, lv, true, rfl, rfl, by go_num, by omega, HN, HWA⟩
                  case measure => simp [intOf]; omega
            · have hvf : (v == b) = false := beq_eq_false_iff_ne.2 hvb
              have HN := Lib.hid (HA.out.skip HP.out (fun e => hvb (by injection e with _ e; injection e)))
              subst hua
              clear hvb
              go_wp2
              go_roundw
              case rel => exact ⟨i + 1, lv, fd, rfl, rfl, by go_num, by omega, HN, HWA⟩
              case measure => simp [intOf]; omega
          · have huf : (u == a) = false := beq_eq_false_iff_ne.2 hua
            have HN := Lib.hid (HA.out.skip HP.out (fun e => hua (by injection e)))
            clear hua
            go_wp2
            go_roundw
            case rel => exact ⟨i + 1, lv, fd, rfl, rfl, by go_num, by omega, HN, HWA⟩
            case measure => simp [intOf]; omega
      · have hie : i = st.d.decomps.length := by omega
        subst hie
        have HL : Hid (composeV (least st.d.decomps a b) = .tuple #[.int .i32 lv, .bool fd]) := Lib.hid (by
          rw [← accL_all]
          exact HA.out.out)
        clear hlc
        go_wp2
        go_ret2
        rw [HL.out]
        exact ⟨rfl, HW.out⟩
  · have hclb : (cl != 0) = true := bne_iff_ne.2 hcl
    rw [if_pos hcl]
    clear hcl
    go_enter Tryz.func59, Tryz.ntmps59
    go_wp2_with (first | (go_at_call 101; (with_reducible refine (syl_calls _ _).mono ?_); rintro e w6 ⟨rfl, hw⟩; subst w6) | (go_at_call 58; (with_reducible refine HCL.out.mono ?_); rintro e w6 ⟨rfl, hw⟩; subst w6))
    go_ret2
    exact ⟨rfl, Below.refl _ _⟩
set_option maxHeartbeats 8000000 in
set_option maxRecDepth 100000 in
theorem rcompose_G (q : Nat) (st : St) (a b : Int) (ha0 : -2147483648 ≤ a) (ha1 : a ≤ 2147483647) (hb0 : -2147483648 ≤ b) (hb1 : b ≤ 2147483647) (w : World) (h : RefAt q w st) (hs : isSyl a = true) (hm : (a - 44032) % 28 = 0) (h5 : 4520 ≤ b) (h6 : ¬ b ≤ 4546) : Calls Tryz.prog 59 #[.pointer (some ⟨q, 0, none⟩), .int .i32 a, .int .i32 b] w fun e w' => e = .returned (composeV (if classOf st.d a ≠ 0 then none else least st.d.decomps a b)) ∧ Below w.heap.size w w' := by
  have HR := Lib.hid h
  have HCL := Lib.hid (rclass_calls q st a ha0 ha1 w h)
  have HOK := Lib.hid h.2.1
  have hlm : st.d.decomps.length ≤ 1048576 := h.2.2.2.2.2
  clear h
  have h0 : 44032 ≤ a ∧ a < 55204 := by simpa [isSyl] using hs
  obtain ⟨g1, g2⟩ := h0
  have g3 : ¬ a ≤ 4370 := by omega
  have hb28 : ((a - 44032) % 28 == 0) = true := by rw [hm]; rfl
  clear hm
  generalize classOf st.d a = cl at *
  by_cases hcl : cl = 0
  · have hclb : (cl != 0) = false := by rw [hcl]; rfl
    rw [if_neg (fun e => e hcl)]
    clear hcl
    go_enter Tryz.func59, Tryz.ntmps59
    go_wp2_with (first | (go_at_call 101; (with_reducible refine (syl_calls _ _).mono ?_); rintro e w6 ⟨rfl, hw⟩; subst w6) | (go_at_call 58; (with_reducible refine HCL.out.mono ?_); rintro e w6 ⟨rfl, hw⟩; subst w6))
    go_loopw [8, 9, 10] (fun vl vf vi wr => ∃ (i : Nat) (lv : Int) (fd : Bool), vl = .int .i32 lv ∧ vf = .bool fd ∧ vi = .int .i64 i ∧ i ≤ st.d.decomps.length ∧ Hid (CA st.d.decomps a b i lv fd) ∧ Hid (Below w.heap.size w wr)) (fun _ _ vi _ => st.d.decomps.length - (intOf vi).toNat)
    case atStart => exact ⟨0, 0, false, rfl, rfl, rfl, by omega, Lib.hid ⟨fun _ => ⟨rfl, rfl⟩, fun e => by cases e⟩, Lib.hid (Below.refl _ _)⟩
    case round =>
      obtain ⟨i, lv, fd, rfl, rfl, rfl, hi, HA, HW⟩ := hrel
      rename World => w2
      obtain ⟨A, c, hq3, _, hlc⟩ := (HR.out.on HW.out).decomps
      by_cases hlt : i < st.d.decomps.length
      · obtain ⟨p, hp⟩ : ∃ p, st.d.decomps[i]? = some p := ⟨_, List.getElem?_eq_getElem hlt⟩
        obtain ⟨g, rfl, tv, kk, c0, c1, c2, hpt⟩ := hlc i p hp
        obtain ⟨bt, ot, ct, rfl, hpc⟩ := pts_cell hpt
        obtain ⟨hp0, hp1⟩ := char_bounds (HOK.out.chars p (List.mem_of_getElem? hp)).1
        have HP := Lib.hid hp
        have HWA : Hid (Below w.heap.size w (w2.alloc (.cells #[.int .i64 p.1, .slice (some ⟨bt, ot, none⟩) p.2.length ct, .int .i64 kk] 147))) := Lib.hid (HW.out.alloc HW.out.size _)
        have f1 : (0 : Int) ≤ (i : Int) := by omega
        have f2 : (i : Int) < (st.d.decomps.length : Int) := by omega
        have hcase : (p.2.length ≠ 2 ∧ p.2 ≠ [a, b]) ∨ ∃ u v, p.2 = [u, v] := by
          by_cases hl : p.2.length = 2
          · match hm : p.2, hl with
            | [u, v], _ => exact .inr ⟨u, v, rfl⟩
          · exact .inl ⟨hl, fun e => hl (by rw [e]; rfl)⟩
        clear hlc hp hpt
        obtain ⟨p1, p2⟩ := p
        simp only at c0 c1 hpc hp0 hp1 HP HWA hcase ⊢
        rcases hcase with ⟨hl, hne⟩ | ⟨u, v, rfl⟩
        · have hlb : ((p2.length : Int) == 2) = false := beq_eq_false_iff_ne.2 (by omega)
          have HN := Lib.hid (HA.out.skip HP.out hne)
          clear hpc hl hne
          go_wp2
          go_roundw
          case rel => exact ⟨i + 1, lv, fd, rfl, rfl, by go_num, by omega, HN, HWA⟩
          case measure => simp [intOf]; omega
        · have hu := Lib.cell?_alloc_some (.cells #[.int .i64 p1, .slice (some ⟨bt, ot, none⟩) 2 ct, .int .i64 kk] 147) (hpc 0 u rfl)
          have hv := Lib.cell?_alloc_some (.cells #[.int .i64 p1, .slice (some ⟨bt, ot, none⟩) 2 ct, .int .i64 kk] 147) (hpc 1 v rfl)
          simp only [Nat.add_zero] at hu
          clear hpc
          by_cases hua : u = a
          · by_cases hvb : v = b
            · subst hua
              subst hvb
              cases fd with
              | false =>
                have HN := Lib.hid (HA.out.take HP.out (.inl rfl))
                go_wp2
                go_roundw
                case rel => exact ⟨i + 1, p1, true, rfl, rfl, by go_num, by omega, HN, HWA⟩
                case measure => simp [intOf]; omega
              | true =>
                by_cases hlv : p1 < lv
                · have HN := Lib.hid (HA.out.take HP.out (.inr hlv))
                  go_wp2
                  go_roundw
                  case rel => exact ⟨i + 1, p1, true, rfl, rfl, by go_num, by omega, HN, HWA⟩
                  case measure => simp [intOf]; omega
                · have HN := Lib.hid (HA.out.keep HP.out hlv)
                  go_wp2
                  go_roundw
                  case rel => exact ⟨i + 1, lv, true, rfl, rfl, by go_num, by omega, HN, HWA⟩
                  case measure => simp [intOf]; omega
            · have hvf : (v == b) = false := beq_eq_false_iff_ne.2 hvb
              have HN := Lib.hid (HA.out.skip HP.out (fun e => hvb (by injection e with _ e; injection e)))
              subst hua
              clear hvb
              go_wp2
              go_roundw
              case rel => exact ⟨i + 1, lv, fd, rfl, rfl, by go_num, by omega, HN, HWA⟩
              case measure => simp [intOf]; omega
          · have huf : (u == a) = false := beq_eq_false_iff_ne.2 hua
            have HN := Lib.hid (HA.out.skip HP.out (fun e => hua (by injection e)))
            clear hua
            go_wp2
            go_roundw
            case rel => exact ⟨i + 1, lv, fd, rfl, rfl, by go_num, by omega, HN, HWA⟩
            case measure => simp [intOf]; omega
      · have hie : i = st.d.decomps.length := by omega
        subst hie
        have HL : Hid (composeV (least st.d.decomps a b) = .tuple #[.int .i32 lv, .bool fd]) := Lib.hid (by
          rw [← accL_all]
          exact HA.out.out)
        clear hlc
        go_wp2
        go_ret2
        rw [HL.out]
        exact ⟨rfl, HW.out⟩
  · have hclb : (cl != 0) = true := bne_iff_ne.2 hcl
    rw [if_pos hcl]
    clear hcl
    go_enter Tryz.func59, Tryz.ntmps59
    go_wp2_with (first | (go_at_call 101; (with_reducible refine (syl_calls _ _).mono ?_); rintro e w6 ⟨rfl, hw⟩; subst w6) | (go_at_call 58; (with_reducible refine HCL.out.mono ?_); rintro e w6 ⟨rfl, hw⟩; subst w6))
    go_ret2
    exact ⟨rfl, Below.refl _ _⟩
theorem rcompose_calls (q : Nat) (st : St) (a b : Int) (ha0 : -2147483648 ≤ a) (ha1 : a ≤ 2147483647) (hb0 : -2147483648 ≤ b) (hb1 : b ≤ 2147483647) (w : World) (h : RefAt q w st) : Calls Tryz.prog 59 #[.pointer (some ⟨q, 0, none⟩), .int .i32 a, .int .i32 b] w fun e w' => e = .returned (composeV (composeOf st.d a b)) ∧ Below w.heap.size w w' := by
  unfold composeOf
  by_cases hlead : 4352 ≤ a ∧ a < 4371 ∧ 4449 ≤ b ∧ b < 4470
  · rw [if_pos hlead]
    exact rcompose_lead q a b w hlead.1 hlead.2.1 hlead.2.2.1 hlead.2.2.2
  rw [if_neg hlead]
  by_cases htail : isSyl a = true ∧ (a - 44032) % 28 = 0 ∧ 4519 < b ∧ b < 4547
  · rw [if_pos htail]
    exact rcompose_tail q a b w htail.1 htail.2.1 htail.2.2.1 htail.2.2.2
  rw [if_neg htail]
  cases hs : isSyl a with
  | false =>
    by_cases h1 : 4352 ≤ a
    · by_cases h2 : a ≤ 4370
      · by_cases h3 : 4449 ≤ b
        · exact rcompose_D q st a b ha0 ha1 hb0 hb1 w h h1 h2 h3 (by omega) hs
        · exact rcompose_C q st a b ha0 ha1 hb0 hb1 w h h1 h2 h3 hs
      · exact rcompose_B q st a b ha0 ha1 hb0 hb1 w h h1 h2 hs
    · exact rcompose_A q st a b ha0 ha1 hb0 hb1 w h h1 hs
  | true =>
    by_cases hm : (a - 44032) % 28 = 0
    · by_cases h5 : 4520 ≤ b
      · exact rcompose_G q st a b ha0 ha1 hb0 hb1 w h hs hm h5 (fun h6 => htail ⟨hs, hm, by omega, by omega⟩)
      · exact rcompose_F q st a b ha0 ha1 hb0 hb1 w h hs hm h5
    · exact rcompose_E q st a b ha0 ha1 hb0 hb1 w h hs hm
end Go.Proofs.YtikpkjpnehkbfaaGreatDoor.Rf
namespace Go.Proofs.YtikpkjpnehkbfaaGreatDoor.Nw
open Go Go.RowKit Go.Shelf Go.Proofs.YtikpkjpnehkbfaaGreatDoor.Sp Go.Proofs.YtikpkjpnehkbfaaGreatDoor.Pr Go.Proofs.YtikpkjpnehkbfaaGreatDoor.Rf Go.Proofs.YtikpkjpnehkbfaaGreatDoor.Nm Go.Proofs.YtikpkjpnehkbfaaGreatDoor.Sb
structure RC (D : PD) (n₀ : Nat) (w1 : World) (d : List Int) (i : Nat) (o : List Int × Option Nat) (v : Value) (wr : World) : Prop where
  o_eq : o = (d.take i).foldl (compStep D) ([], none)
  own : OwnPts n₀ wr v o.1
  mv : Mvd w1 wr (.slice none 0 0) v
  inn : StIn o
  len : o.1.length ≤ i
  pts : ∀ y ∈ o.1, B32 y
theorem RC.start (D : PD) (n₀ : Nat) (w1 : World) (d : List Int) : RC D n₀ w1 d 0 ([], none) (.slice none 0 0) w1 :=
  ⟨rfl, ⟨rfl, .inl ⟨rfl, rfl⟩⟩, Mvd.refl _ _, fun s h => (by cases h), Nat.zero_le _, fun y hy => by cases hy⟩
theorem step_b32 {D : PD} (hg : Nm.Good D) {o : List Int × Option Nat} {c : Int} (ho : ∀ y ∈ o.1, B32 y) (hc : B32 c) : ∀ y ∈ (compStep D o c).1, B32 y := by
  have hp : ∀ y ∈ (push D o c).1, B32 y := fun y hy => by
    unfold push at hy
    rcases List.mem_append.1 hy with h | h
    · exact ho y h
    · rw [List.mem_singleton] at h; rw [h]; exact hc
  rcases h2 : o.2 with _ | s
  · rw [cs_none h2]; exact hp
  · by_cases hf : free D o.1 s c
    · cases hcm : composeOf D (o.1.getD s 0) c with
      | none => rw [cs_no h2 hf hcm]; exact hp
      | some r =>
        rw [cs_yes h2 hf hcm]
        intro y hy
        rcases List.mem_or_eq_of_mem_set hy with h | h
        · exact ho y h
        · rw [h]; exact char_b32 (compose_char hg hcm).1
    · rw [cs_block h2 hf]; exact hp
theorem RC.next {D : PD} (hg : Nm.Good D) {n₀ : Nat} {w1 w2 : World} {d : List Int} {i : Nat} {o : List Int × Option Nat} {v v2 : Value} {c : Int} {wr : World} (h : RC D n₀ w1 d i o v wr) (hc : d[i]? = some c) (h32 : B32 c) (ho : OwnPts n₀ w2 v2 (compStep D o c).1) (hm : Mvd wr w2 v v2) : RC D n₀ w1 d (i + 1) (compStep D o c) v2 w2 := by
  refine ⟨?_, ho, h.mv.trans hm, h.inn.step c, ?_, step_b32 hg h.pts h32⟩
  · rw [List.take_add_one, hc, List.foldl_append, ← h.o_eq]; rfl
  · have := compStep_length D o c
    have := h.len
    omega
abbrev RComposeAt (w : World) (q : Nat) (a b : Int) (v : Value) : Prop := ∀ W : World, Below w.heap.size w W → Calls Tryz.prog 59 #[.pointer (some ⟨q, 0, none⟩), .int .i32 a, .int .i32 b] W fun e w' => e = .returned v ∧ Below W.heap.size W w'
theorem rcomposeAt {w : World} {q : Nat} {st : St} (H : RefAt q w st) {a b : Int} (ha : B32 a) (hb : B32 b) {v : Value} (h : composeV (composeOf st.d a b) = v) : RComposeAt w q a b v := fun W hW => by
  rw [← h]; exact rcompose_calls q st a b ha.1 ha.2 hb.1 hb.2 W (H.on hW)
theorem push_start {D : PD} {o : List Int × Option Nat} {c : Int} (hi : StIn o) : startV (push D o c) = if classOf D c = 0 then (o.1.length : Int) else startV o := by
  by_cases h : classOf D c = 0
  · rw [if_pos h]; exact ((push_last hi c).1 h).1
  · rw [if_neg h]; exact ((push_last hi c).2 h).1
set_option maxHeartbeats 8000000 in
set_option maxRecDepth 100000 in
theorem rcomp_calls {w0 : World} {q : Nat} {st : St} (H : RefAt q w0 st) (hgood : Nm.Good st.d) {W : World} {lv : Value} {l : List Int} (hb : Below w0.heap.size w0 W) (hr : ReadPts W lv l) (h32 : ∀ x ∈ l, B32 x) (hl : (Nm.flat st.d l).length ≤ 16777216) :
    Calls Tryz.prog 21 #[.pointer (some ⟨q, 0, none⟩), lv] W fun e W' => ∃ v, e = .returned v ∧ OwnPts W.heap.size W' v (compN st.d l) ∧ Below W.heap.size W W' := by
  have HDC := Lib.hid (rdec_calls H hgood hb hr h32 hl)
  have HB := Lib.hid hb
  have HCN : Hid (compN st.d l = compF st.d (decN st.d l)) := Lib.hid rfl
  have HDL : Hid ((decN st.d l).length ≤ 16777216) := Lib.hid (by unfold decN; rw [ordR_length]; exact hl)
  have HD32 := Lib.hid (dec_b32 hgood h32)
  have HH := Lib.hid H
  have HG := Lib.hid hgood
  obtain ⟨d, hd⟩ : ∃ d, decN st.d l = d := ⟨_, rfl⟩
  rw [hd] at HDC HCN HDL HD32
  clear hd hb hr hl h32 H hgood
  go_enter Tryz.func21, Tryz.ntmps21
  go_wp2_with (go_at_call 20; (with_reducible refine HDC.out.mono ?_); rintro e w1 ⟨dv, rfl, ho1, hb1⟩; obtain ⟨A, cc, rfl⟩ := YtikpkjpnehkbfaaGreatDoor.Rowl.own_slice ho1; have HO1 := Lib.hid ho1; have HB1 := Lib.hid hb1; clear ho1 hb1)
  obtain ⟨n, hn⟩ : ∃ n, d.length = n := ⟨_, rfl⟩
  have HN := Lib.hid hn
  have hn24 : n ≤ 16777216 := by rw [← hn]; exact HDL.out
  rw [hn]
  have HC : Hid (∀ (i : Nat) (x : Int), d[i]? = some x → ∃ b off, A = some ⟨b, off, none⟩ ∧ w1.cell? ⟨b, off + i, none⟩ = some (.int .i32 x)) := Lib.hid (by
    obtain ⟨A', c', e, h⟩ := read_addr (ReadPts.own HO1.out)
    injection e with e1 _ _
    subst e1
    exact h)
  clear hn HDC
  go_loopg [6, 7, 8] n (fun gk v6 v7 v8 wr => ∃ (i : Nat) (o : List Int × Option Nat), v8 = .int .i64 i ∧ v7 = .int .i64 (startV o) ∧ i ≤ n ∧ n - i ≤ gk ∧ Hid (RC st.d W.heap.size w1 d i o v6 wr))
  case atStart => exact ⟨0, ([], none), rfl, rfl, Nat.zero_le _, by omega, Lib.hid (RC.start _ _ _ _)⟩
  case round =>
    obtain ⟨i, o, rfl, rfl, hi, hg1, HO⟩ := hrel
    have HBW : Hid (Below w1.heap.size w1 wr) := Lib.hid (HO.out.mv.below (Nat.le_refl _) (fun g h => by cases h))
    have HB0 : Hid (Below w0.heap.size w0 wr) := Lib.hid (HB.out.trans ((bl_then HB1.out HBW.out).mono HB.out.size))
    have HWS : Hid (W.heap.size ≤ wr.heap.size) := Lib.hid (Nat.le_trans HB1.out.size HBW.out.size)
    by_cases hlt : i < n
    · have hz : (i : Int) < (n : Int) := by omega
      obtain ⟨c, hc⟩ : ∃ x, d[i]? = some x := ⟨_, List.getElem?_eq_getElem (by rw [HN.out]; exact hlt)⟩
      obtain ⟨b, off, rfl, cx0⟩ := HC.out i c hc
      have cx := Sb.later_cell HBW.out cx0
      have hc32 := HD32.out c (List.mem_of_getElem? hc)
      have HC32 := Lib.hid hc32
      have HX := Lib.hid hc
      obtain ⟨cc, hcc⟩ : ∃ cc, classOf st.d c = cc := ⟨_, rfl⟩
      have HCC := Lib.hid (rclassAt HH.out hc32 hcc)
      have HCE := Lib.hid hcc
      obtain ⟨Ln, hLn⟩ : ∃ Ln, o.1.length = Ln := ⟨_, rfl⟩
      have hLi : Ln ≤ 16777216 := by rw [← hLn]; exact Nat.le_trans HO.out.len (by omega)
      have HLN := Lib.hid hLn
      have e1 : IntKind.i64.wrap ((Ln : Int) + 1 - 1) = (Ln : Int) := (IntWalk.i64_in _ (by omega)).trans (by omega)
      have e2 : IntKind.i64.wrap (Ln : Int) = (Ln : Int) := IntWalk.i64_in _ (by omega)
      have e5 : IntKind.i64.wrap ((Ln : Int) - 1) = (Ln : Int) - 1 := IntWalk.i64_in _ (by omega)
      have HOW : Hid (OwnPts W.heap.size wr u6 o.1) := Lib.hid HO.out.own
      have hlb : o.1.length ≤ 1073741824 := by rw [hLn]; omega
      have HLB := Lib.hid hlb
      have HPS := Lib.hid (push_start (D := st.d) (c := c) HO.out.inn)
      rw [hcc, hLn] at HPS
      clear hc hcc cx0 hLn hlb hc32
      rcases ho2 : o.2 with _ | s
      · have hst : startV o = -1 := by unfold startV; rw [ho2]
        have HE : Hid (compStep st.d o c = push st.d o c) := Lib.hid (cs_none ho2)
        rw [hst] at HPS ⊢
        obtain ⟨A6, c6, hv6⟩ := YtikpkjpnehkbfaaGreatDoor.Rowl.own_slice HOW.out
        rw [HLN.out] at hv6
        subst hv6
        clear hst ho2
        by_cases hz0 : cc = 0
        · have hq : ((cc : Int) == 0) = true := by simp [hz0]
          rw [if_pos hz0] at HPS
          clear hz0
          go_wp2_with (first
            | (at_builtin; refine wpList_append_mvd rfl _ _ rfl W.heap.size _ o.1 rfl HOW.out rfl HLB.out HWS.out ?_; rintro v' w4 ho4 hm4 ⟨g4, c4, rfl⟩; rw [HLN.out] at ho4 hm4 ⊢; have HO4 := Lib.hid ho4; have HM4 := Lib.hid hm4; have HB4 : Hid (Below w0.heap.size w0 w4) := Lib.hid (HB0.out.trans (HM4.out.below HB0.out.size (fun g hg => by have := (own_at HOW.out g hg).1; have := HB.out.size; omega))); clear ho4 hm4)
            | (go_at_call 58; (with_reducible refine (HCC.out _ HB4.out).mono ?_); rintro e w5 ⟨rfl, rfl⟩))
          go_roundg (n - (i + 1))
          case rel => exact ⟨i + 1, push st.d o c, by go_num, (by rw [HPS.out] <;> first | done | rfl), by omega, by omega, Lib.hid (by have := HO.out.next HG.out HX.out HC32.out (by rw [HE.out]; exact HO4.out) HM4.out; rwa [HE.out] at this)⟩
          case measure => omega
        · have hq : ((cc : Int) == 0) = false := beq_eq_false_iff_ne.2 hz0
          rw [if_neg hz0] at HPS
          clear hz0
          go_wp2_with (first
            | (at_builtin; refine wpList_append_mvd rfl _ _ rfl W.heap.size _ o.1 rfl HOW.out rfl HLB.out HWS.out ?_; rintro v' w4 ho4 hm4 ⟨g4, c4, rfl⟩; rw [HLN.out] at ho4 hm4 ⊢; have HO4 := Lib.hid ho4; have HM4 := Lib.hid hm4; have HB4 : Hid (Below w0.heap.size w0 w4) := Lib.hid (HB0.out.trans (HM4.out.below HB0.out.size (fun g hg => by have := (own_at HOW.out g hg).1; have := HB.out.size; omega))); clear ho4 hm4)
            | (go_at_call 58; (with_reducible refine (HCC.out _ HB4.out).mono ?_); rintro e w5 ⟨rfl, rfl⟩))
          go_roundg (n - (i + 1))
          case rel => exact ⟨i + 1, push st.d o c, by go_num, (by rw [HPS.out] <;> first | done | rfl), by omega, by omega, Lib.hid (by have := HO.out.next HG.out HX.out HC32.out (by rw [HE.out]; exact HO4.out) HM4.out; rwa [HE.out] at this)⟩
          case measure => omega
      · have hst : startV o = (s : Int) := by unfold startV; rw [ho2]
        have HST := Lib.hid hst
        have hsl : s < Ln := by have := HO.out.inn s ho2; rw [HLN.out] at this; exact this
        obtain ⟨m, rfl⟩ : ∃ m, Ln = m + 1 := ⟨Ln - 1, by omega⟩
        have HO2 := Lib.hid ho2
        have hs0 : ¬ (s : Int) < 0 := by omega
        have hs1 : (0 : Int) ≤ (s : Int) := by omega
        have hsz : (s : Int) < (m : Int) + 1 := by omega
        have hmz : (m : Int) < (m : Int) + 1 := by omega
        have hm0 : (0 : Int) ≤ (m : Int) := by omega
        have e6 : IntKind.i64.wrap ((m : Int) + 1 - 1) = (m : Int) := (IntWalk.i64_in _ (by omega)).trans (by omega)
        have e7 : IntKind.i64.wrap (m : Int) = (m : Int) := IntWalk.i64_in _ (by omega)
        have e8 : IntKind.i64.wrap ((m : Int) + 1 + 1 - 1) = (m : Int) + 1 := (IntWalk.i64_in _ (by omega)).trans (by omega)
        have e9 : IntKind.i64.wrap ((m : Int) + 1) = (m : Int) + 1 := IntWalk.i64_in _ (by omega)
        clear e1 e2 e5
        rw [hst] at HPS ⊢
        obtain ⟨a, ha⟩ : ∃ a, o.1[s]? = some a := ⟨_, List.getElem?_eq_getElem (by rw [HLN.out]; exact hsl)⟩
        have ha32 := HO.out.pts a (List.mem_of_getElem? ha)
        have had : Hid (o.1.getD s 0 = a) := Lib.hid (by simp [List.getD, ha])
        obtain ⟨g5, c5, hv5⟩ : ∃ g5 c5, u6 = .slice (some ⟨g5, 0, none⟩) (m + 1) c5 := by
          rcases own_split HOW.out with ⟨_, e⟩ | ⟨g, cap, sp, e, _⟩
          · have := HLN.out; rw [e] at this; simp at this
          · rw [HLN.out] at e; exact ⟨g, cap, e⟩
        subst hv5
        have ca := own_cells HOW.out ha
        clear hst ho2
        by_cases hsm : s = m
        · have hnb : ((m : Int) != (s : Int)) = false := by simp [hsm]
          have HF : Hid (free st.d o.1 s c) := Lib.hid (.inl (by rw [HLN.out, hsm]))
          clear hsm
          cases hcm : composeOf st.d a c with
          | none =>
            have HE : Hid (compStep st.d o c = push st.d o c) := Lib.hid (cs_no HO2.out HF.out (by rw [had.out]; exact hcm))
            have HCM := Lib.hid (rcomposeAt HH.out ha32 HC32.out (v := .tuple #[.int .i32 0, .bool false]) (by rw [hcm]; rfl))
            clear hcm ha ha32
            by_cases hz0 : cc = 0
            · have hq : ((cc : Int) == 0) = true := by simp [hz0]
              rw [if_pos hz0] at HPS
              clear hz0
              go_wp2_with (first
                | (go_at_call 59; (with_reducible refine (HCM.out _ (by first | exact HB0.out | exact HB2.out)).mono ?_); rintro e w3 ⟨rfl, hb3⟩; have HB3 := Lib.hid hb3; clear hb3)
                | (at_builtin; refine wpList_append_mvd rfl _ _ rfl W.heap.size _ o.1 rfl (Rowl.own_later HOW.out HB3.out) rfl HLB.out (Nat.le_trans HWS.out HB3.out.size) ?_; rintro v' w4 ho4 hm4 ⟨g4, c4, rfl⟩; rw [HLN.out] at ho4 hm4 ⊢; have HO4 := Lib.hid ho4; have HM4 := Lib.hid (hm4.ahead HB3.out (fun g hg => (own_at HOW.out g hg).2)); have HB4 : Hid (Below w0.heap.size w0 w4) := Lib.hid (HB0.out.trans (HM4.out.below HB0.out.size (fun g hg => by have := (own_at HOW.out g hg).1; have := HB.out.size; omega))); clear ho4 hm4)
                | (go_at_call 58; (with_reducible refine (HCC.out _ HB4.out).mono ?_); rintro e w5 ⟨rfl, rfl⟩))
              go_roundg (n - (i + 1))
              case rel => exact ⟨i + 1, push st.d o c, by go_num, (by rw [HPS.out] <;> first | done | rfl), by omega, by omega, Lib.hid (by have := HO.out.next HG.out HX.out HC32.out (by rw [HE.out]; exact HO4.out) HM4.out; rwa [HE.out] at this)⟩
              case measure => omega
            · have hq : ((cc : Int) == 0) = false := beq_eq_false_iff_ne.2 hz0
              rw [if_neg hz0] at HPS
              clear hz0
              go_wp2_with (first
                | (go_at_call 59; (with_reducible refine (HCM.out _ (by first | exact HB0.out | exact HB2.out)).mono ?_); rintro e w3 ⟨rfl, hb3⟩; have HB3 := Lib.hid hb3; clear hb3)
                | (at_builtin; refine wpList_append_mvd rfl _ _ rfl W.heap.size _ o.1 rfl (Rowl.own_later HOW.out HB3.out) rfl HLB.out (Nat.le_trans HWS.out HB3.out.size) ?_; rintro v' w4 ho4 hm4 ⟨g4, c4, rfl⟩; rw [HLN.out] at ho4 hm4 ⊢; have HO4 := Lib.hid ho4; have HM4 := Lib.hid (hm4.ahead HB3.out (fun g hg => (own_at HOW.out g hg).2)); have HB4 : Hid (Below w0.heap.size w0 w4) := Lib.hid (HB0.out.trans (HM4.out.below HB0.out.size (fun g hg => by have := (own_at HOW.out g hg).1; have := HB.out.size; omega))); clear ho4 hm4)
                | (go_at_call 58; (with_reducible refine (HCC.out _ HB4.out).mono ?_); rintro e w5 ⟨rfl, rfl⟩))
              go_roundg (n - (i + 1))
              case rel => exact ⟨i + 1, push st.d o c, by go_num, (by rw [HPS.out] <;> first | done | rfl), by omega, by omega, Lib.hid (by have := HO.out.next HG.out HX.out HC32.out (by rw [HE.out]; exact HO4.out) HM4.out; rwa [HE.out] at this)⟩
              case measure => omega
          | some r =>
            have HE : Hid (compStep st.d o c = (o.1.set s r, some s)) := Lib.hid (cs_yes HO2.out HF.out (by rw [had.out]; exact hcm))
            have HCM := Lib.hid (rcomposeAt HH.out ha32 HC32.out (v := .tuple #[.int .i32 r, .bool true]) (by rw [hcm]; rfl))
            have HSL := Lib.hid (set_last (D := st.d) HO.out.inn HO2.out r)
            clear hcm ha ha32
            go_wp2_with (first
              | (go_at_call 59; (with_reducible refine (HCM.out _ HB0.out).mono ?_); rintro e w3 ⟨rfl, hb3⟩; have ca := Sb.later_cell hb3 ca; have HB3 := Lib.hid hb3; have HSET := Lib.hid (own_set (Rowl.own_later HOW.out HB3.out) HLN.out hsl r); have f5 := HSET.out.2.2; clear hb3))
            go_roundg (n - (i + 1))
            case rel => exact ⟨i + 1, (o.1.set s r, some s), by go_num, by rw [HSL.out.1, HST.out], by omega, by omega, Lib.hid (by have := HO.out.next HG.out HX.out HC32.out (by rw [HE.out]; exact HSET.out.1) (HSET.out.2.1.ahead HB3.out (fun g hg => (own_at HOW.out g hg).2)); rwa [HE.out] at this)⟩
            case measure => omega
        · have hnb : ((m : Int) != (s : Int)) = true := by simp; omega
          obtain ⟨y, hy⟩ : ∃ y, o.1[m]? = some y := ⟨_, List.getElem?_eq_getElem (by rw [HLN.out]; omega)⟩
          have cy := own_cells HOW.out hy
          obtain ⟨ky, hky⟩ : ∃ ky, classOf st.d y = ky := ⟨_, rfl⟩
          have HCY := Lib.hid (rclassAt HH.out (HO.out.pts y (List.mem_of_getElem? hy)) hky)
          have HGD : Hid (o.1.getD (o.1.length - 1) 0 = y) := Lib.hid (by rw [HLN.out]; simp [List.getD, hy])
          have HNS : Hid (s + 1 ≠ o.1.length) := Lib.hid (by rw [HLN.out]; omega)
          by_cases hkc : ky < cc
          · have HF : Hid (free st.d o.1 s c) := Lib.hid (.inr (by rw [HGD.out, hky, HCE.out]; exact hkc))
            have hdb : decide (cc ≤ ky) = false := decide_eq_false (by omega)
            clear hsm hy hky
            cases hcm : composeOf st.d a c with
            | none =>
              have HE : Hid (compStep st.d o c = push st.d o c) := Lib.hid (cs_no HO2.out HF.out (by rw [had.out]; exact hcm))
              have HCM := Lib.hid (rcomposeAt HH.out ha32 HC32.out (v := .tuple #[.int .i32 0, .bool false]) (by rw [hcm]; rfl))
              clear hcm ha ha32
              by_cases hz0 : cc = 0
              · have hq : ((cc : Int) == 0) = true := by simp [hz0]
                rw [if_pos hz0] at HPS
                clear hz0
                go_wp2_with (first
                  | (go_at_call 58; (with_reducible refine (HCY.out _ HB0.out).mono ?_); rintro e w5 ⟨rfl, rfl⟩)
                  | (go_at_call 58; (with_reducible refine (HCC.out _ HB0.out).mono ?_); rintro e w5 ⟨rfl, rfl⟩)
                  | (go_at_call 59; (with_reducible refine (HCM.out _ (by first | exact HB0.out | exact HB2.out)).mono ?_); rintro e w3 ⟨rfl, hb3⟩; have HB3 := Lib.hid hb3; clear hb3)
                  | (at_builtin; refine wpList_append_mvd rfl _ _ rfl W.heap.size _ o.1 rfl (Rowl.own_later HOW.out HB3.out) rfl HLB.out (Nat.le_trans HWS.out HB3.out.size) ?_; rintro v' w4 ho4 hm4 ⟨g4, c4, rfl⟩; rw [HLN.out] at ho4 hm4 ⊢; have HO4 := Lib.hid ho4; have HM4 := Lib.hid (hm4.ahead HB3.out (fun g hg => (own_at HOW.out g hg).2)); have HB4 : Hid (Below w0.heap.size w0 w4) := Lib.hid (HB0.out.trans (HM4.out.below HB0.out.size (fun g hg => by have := (own_at HOW.out g hg).1; have := HB.out.size; omega))); clear ho4 hm4)
                  | (go_at_call 58; (with_reducible refine (HCC.out _ HB4.out).mono ?_); rintro e w5 ⟨rfl, rfl⟩))
                go_roundg (n - (i + 1))
                case rel => exact ⟨i + 1, push st.d o c, by go_num, (by rw [HPS.out] <;> first | done | rfl), by omega, by omega, Lib.hid (by have := HO.out.next HG.out HX.out HC32.out (by rw [HE.out]; exact HO4.out) HM4.out; rwa [HE.out] at this)⟩
                case measure => omega
              · have hq : ((cc : Int) == 0) = false := beq_eq_false_iff_ne.2 hz0
                rw [if_neg hz0] at HPS
                clear hz0
                go_wp2_with (first
                  | (go_at_call 58; (with_reducible refine (HCY.out _ HB0.out).mono ?_); rintro e w5 ⟨rfl, rfl⟩)
                  | (go_at_call 58; (with_reducible refine (HCC.out _ HB0.out).mono ?_); rintro e w5 ⟨rfl, rfl⟩)
                  | (go_at_call 59; (with_reducible refine (HCM.out _ (by first | exact HB0.out | exact HB2.out)).mono ?_); rintro e w3 ⟨rfl, hb3⟩; have HB3 := Lib.hid hb3; clear hb3)
                  | (at_builtin; refine wpList_append_mvd rfl _ _ rfl W.heap.size _ o.1 rfl (Rowl.own_later HOW.out HB3.out) rfl HLB.out (Nat.le_trans HWS.out HB3.out.size) ?_; rintro v' w4 ho4 hm4 ⟨g4, c4, rfl⟩; rw [HLN.out] at ho4 hm4 ⊢; have HO4 := Lib.hid ho4; have HM4 := Lib.hid (hm4.ahead HB3.out (fun g hg => (own_at HOW.out g hg).2)); have HB4 : Hid (Below w0.heap.size w0 w4) := Lib.hid (HB0.out.trans (HM4.out.below HB0.out.size (fun g hg => by have := (own_at HOW.out g hg).1; have := HB.out.size; omega))); clear ho4 hm4)
                  | (go_at_call 58; (with_reducible refine (HCC.out _ HB4.out).mono ?_); rintro e w5 ⟨rfl, rfl⟩))
                go_roundg (n - (i + 1))
                case rel => exact ⟨i + 1, push st.d o c, by go_num, (by rw [HPS.out] <;> first | done | rfl), by omega, by omega, Lib.hid (by have := HO.out.next HG.out HX.out HC32.out (by rw [HE.out]; exact HO4.out) HM4.out; rwa [HE.out] at this)⟩
                case measure => omega
            | some r =>
              have HE : Hid (compStep st.d o c = (o.1.set s r, some s)) := Lib.hid (cs_yes HO2.out HF.out (by rw [had.out]; exact hcm))
              have HCM := Lib.hid (rcomposeAt HH.out ha32 HC32.out (v := .tuple #[.int .i32 r, .bool true]) (by rw [hcm]; rfl))
              have HSL := Lib.hid (set_last (D := st.d) HO.out.inn HO2.out r)
              clear hcm ha ha32
              go_wp2_with (first
                | (go_at_call 58; (with_reducible refine (HCY.out _ HB0.out).mono ?_); rintro e w5 ⟨rfl, rfl⟩)
                | (go_at_call 58; (with_reducible refine (HCC.out _ HB0.out).mono ?_); rintro e w5 ⟨rfl, rfl⟩)
                | (go_at_call 59; (with_reducible refine (HCM.out _ HB0.out).mono ?_); rintro e w3 ⟨rfl, hb3⟩; have ca := Sb.later_cell hb3 ca; have HB3 := Lib.hid hb3; have HSET := Lib.hid (own_set (Rowl.own_later HOW.out HB3.out) HLN.out hsl r); have f5 := HSET.out.2.2; clear hb3))
              go_roundg (n - (i + 1))
              case rel => exact ⟨i + 1, (o.1.set s r, some s), by go_num, by rw [HSL.out.1, HST.out], by omega, by omega, Lib.hid (by have := HO.out.next HG.out HX.out HC32.out (by rw [HE.out]; exact HSET.out.1) (HSET.out.2.1.ahead HB3.out (fun g hg => (own_at HOW.out g hg).2)); rwa [HE.out] at this)⟩
              case measure => omega
          · have HE : Hid (compStep st.d o c = push st.d o c) := Lib.hid (cs_block HO2.out (fun h => by
              rcases h with h | h
              · exact HNS.out h
              · rw [HGD.out, hky, HCE.out] at h; exact hkc h))
            have hdb : decide (cc ≤ ky) = true := decide_eq_true (by omega)
            clear hsm hy hky ha ha32
            by_cases hz0 : cc = 0
            · have hq : ((cc : Int) == 0) = true := by simp [hz0]
              rw [if_pos hz0] at HPS
              clear hz0
              go_wp2_with (first
                | (go_at_call 58; (with_reducible refine (HCY.out _ HB0.out).mono ?_); rintro e w5 ⟨rfl, rfl⟩)
                | (go_at_call 58; (with_reducible refine (HCC.out _ HB0.out).mono ?_); rintro e w5 ⟨rfl, rfl⟩)
                | (at_builtin; refine wpList_append_mvd rfl _ _ rfl W.heap.size _ o.1 rfl HOW.out rfl HLB.out HWS.out ?_; rintro v' w4 ho4 hm4 ⟨g4, c4, rfl⟩; rw [HLN.out] at ho4 hm4 ⊢; have HO4 := Lib.hid ho4; have HM4 := Lib.hid hm4; have HB4 : Hid (Below w0.heap.size w0 w4) := Lib.hid (HB0.out.trans (HM4.out.below HB0.out.size (fun g hg => by have := (own_at HOW.out g hg).1; have := HB.out.size; omega))); clear ho4 hm4)
                | (go_at_call 58; (with_reducible refine (HCC.out _ HB4.out).mono ?_); rintro e w5 ⟨rfl, rfl⟩))
              go_roundg (n - (i + 1))
              case rel => exact ⟨i + 1, push st.d o c, by go_num, (by rw [HPS.out] <;> first | done | rfl), by omega, by omega, Lib.hid (by have := HO.out.next HG.out HX.out HC32.out (by rw [HE.out]; exact HO4.out) HM4.out; rwa [HE.out] at this)⟩
              case measure => omega
            · have hq : ((cc : Int) == 0) = false := beq_eq_false_iff_ne.2 hz0
              rw [if_neg hz0] at HPS
              clear hz0
              go_wp2_with (first
                | (go_at_call 58; (with_reducible refine (HCY.out _ HB0.out).mono ?_); rintro e w5 ⟨rfl, rfl⟩)
                | (go_at_call 58; (with_reducible refine (HCC.out _ HB0.out).mono ?_); rintro e w5 ⟨rfl, rfl⟩)
                | (at_builtin; refine wpList_append_mvd rfl _ _ rfl W.heap.size _ o.1 rfl HOW.out rfl HLB.out HWS.out ?_; rintro v' w4 ho4 hm4 ⟨g4, c4, rfl⟩; rw [HLN.out] at ho4 hm4 ⊢; have HO4 := Lib.hid ho4; have HM4 := Lib.hid hm4; have HB4 : Hid (Below w0.heap.size w0 w4) := Lib.hid (HB0.out.trans (HM4.out.below HB0.out.size (fun g hg => by have := (own_at HOW.out g hg).1; have := HB.out.size; omega))); clear ho4 hm4)
                | (go_at_call 58; (with_reducible refine (HCC.out _ HB4.out).mono ?_); rintro e w5 ⟨rfl, rfl⟩))
              go_roundg (n - (i + 1))
              case rel => exact ⟨i + 1, push st.d o c, by go_num, (by rw [HPS.out] <;> first | done | rfl), by omega, by omega, Lib.hid (by have := HO.out.next HG.out HX.out HC32.out (by rw [HE.out]; exact HO4.out) HM4.out; rwa [HE.out] at this)⟩
              case measure => omega
    · have hz : ¬ (i : Int) < (n : Int) := by omega
      have hin : i = d.length := by rw [HN.out]; omega
      have HF : Hid (o.1 = compF st.d d) := Lib.hid (by
        have := HO.out.o_eq
        rw [hin, List.take_of_length_le (Nat.le_refl _)] at this
        unfold compF
        rw [← this])
      clear hin
      go_wp2
      go_ret
      exact ⟨_, rfl, by rw [HCN.out, ← HF.out]; exact HO.out.own, bl_then HB1.out HBW.out⟩
end Go.Proofs.YtikpkjpnehkbfaaGreatDoor.Nw
namespace Go.Proofs.YtikpkjpnehkbfaaGreatDoor.Nw
open Go Go.RowKit Go.Shelf Go.Proofs.YtikpkjpnehkbfaaGreatDoor.Sp Go.Proofs.YtikpkjpnehkbfaaGreatDoor.Pr Go.Proofs.YtikpkjpnehkbfaaGreatDoor.Rf Go.Proofs.YtikpkjpnehkbfaaGreatDoor.Nm Go.Proofs.YtikpkjpnehkbfaaGreatDoor.Sb
abbrev RComAt (w : World) (q : Nat) (l r : List Int) : Prop := ∀ W lv, Below w.heap.size w W → ReadPts W lv l → Calls Tryz.prog 21 #[.pointer (some ⟨q, 0, none⟩), lv] W (RowBack r W)
theorem rcomAt {w : World} {q : Nat} {st : St} (H : RefAt q w st) (hg : Nm.Good st.d) {l r : List Int} (h : compN st.d l = r) (h32 : ∀ x ∈ l, B32 x) (hl : (Nm.flat st.d l).length ≤ 16777216) : RComAt w q l r := fun W lv hb hr =>
  (rcomp_calls H hg hb hr h32 hl).mono fun e w' h' => by rw [h] at h'; exact rowAt_own h'
set_option maxHeartbeats 2000000 in
set_option maxRecDepth 100000 in
theorem rcut_calls {w0 : World} {q : Nat} {st : St} (H : RefAt q w0 st) (hgood : Nm.Good st.d) {W : World} {lv : Value} {l : List Int} (z : Int) (hb : Below w0.heap.size w0 W) (hr : ReadPts W lv l) (h32 : ∀ x ∈ l, B32 x) (hl : l.length ≤ 1073741824) :
    Calls Tryz.prog 24 #[.pointer (some ⟨q, 0, none⟩), lv, .int .i64 z] W fun e W' => e = .returned (.bool (cutB st.d l z)) ∧ Below W.heap.size W W' := by
  obtain ⟨A, c, rfl, hc⟩ := read_addr hr
  by_cases h : z ≤ 0 ∨ (l.length : Int) ≤ z
  · have HE := Lib.hid (cut_out (D := st.d) h)
    generalize l.length = n at *
    clear hc hr h32
    by_cases h1 : z ≤ 0
    · obtain ⟨t1, ht1⟩ : ∃ t1, (z == 0) = t1 := ⟨_, rfl⟩
      obtain ⟨t2, ht2⟩ : ∃ t2, (z == (n : Int)) = t2 := ⟨_, rfl⟩
      rw [ht1, ht2] at HE
      clear h
      cases t1 <;> cases t2
      all_goals
        go_enter Tryz.func24, Tryz.ntmps24
        go_wp2
        go_ret
        exact ⟨by rw [HE.out]; rfl, Below.refl _ _⟩
    · have h2 : (n : Int) ≤ z := by omega
      have hn0 : ¬ z < (n : Int) := by omega
      obtain ⟨t2, ht2⟩ : ∃ t2, (z == (n : Int)) = t2 := ⟨_, rfl⟩
      have ht1 : (z == 0) = false := beq_eq_false_iff_ne.2 (by omega)
      rw [ht1, ht2] at HE
      clear h
      cases t2
      all_goals
        go_enter Tryz.func24, Tryz.ntmps24
        go_wp2
        go_ret
        exact ⟨by rw [HE.out]; rfl, Below.refl _ _⟩
  · obtain ⟨i, rfl⟩ : ∃ i : Nat, z = (i : Int) := ⟨z.toNat, by omega⟩
    have hi0 : 0 < i := by omega
    have hin : i < l.length := by omega
    obtain ⟨x, hx⟩ : ∃ x, l[i]? = some x := ⟨_, List.getElem?_eq_getElem hin⟩
    obtain ⟨b, off, rfl, cx⟩ := hc i x hx
    have hx32 := h32 x (List.mem_of_getElem? hx)
    have h8 := (hgood.len x).1
    obtain ⟨y, hy⟩ : ∃ y, (wholeOf st.d x)[0]? = some y := ⟨_, List.getElem?_eq_getElem h8⟩
    have HE := Lib.hid (cut_in (D := st.d) hi0 hx hy)
    have HWC := Lib.hid (rWhole_calls H hgood hx32 hb)
    have HWN : Hid (∃ m, (wholeOf st.d x).length = m + 1) := Lib.hid ⟨(wholeOf st.d x).length - 1, (Nat.sub_add_cancel h8).symm⟩
    have HY := Lib.hid hy
    obtain ⟨cy, hcy⟩ : ∃ cy, classOf st.d y = cy := ⟨_, rfl⟩
    have HCL := Lib.hid (rclassAt H (whole_b32 hgood hx32 (List.mem_of_getElem? hy)) hcy)
    have HB := Lib.hid hb
    rw [hcy] at HE
    have q1 : ¬ (i : Int) ≤ 0 := by omega
    have q2 : (i : Int) < (l.length : Int) := by omega
    have q3 : ¬ (l.length : Int) ≤ (i : Int) := by omega
    obtain ⟨t1, ht1⟩ : ∃ t1, (cy == 0) = t1 := ⟨_, rfl⟩
    rw [ht1] at HE
    generalize l.length = n at *
    clear h hc hr hx hy hb hcy h8 hin hl h32 hx32
    generalize wholeOf st.d x = ws at *
    go_enter Tryz.func24, Tryz.ntmps24
    go_wp2_with (first
      | (go_at_call 57; (with_reducible refine HWC.out.mono ?_); rintro e w2 ⟨v2, rfl, ho2, hm2⟩; obtain ⟨m, hm⟩ := HWN.out; obtain ⟨g, c2, rfl⟩ := ownsRow_succ (k := m) (by have := ho2; rw [OwnPts, hm] at this; exact this); have cy2 := own_cells ho2 HY.out; have HB2 := Lib.hid hm2; have hmz : (0 : Int) < (m : Int) + 1 := Int.lt_add_one_of_le (Int.natCast_nonneg m); clear ho2 hm2 hm)
      | (go_at_call 58; (with_reducible refine (HCL.out _ (bl_then HB.out HB2.out)).mono ?_); rintro e w3 ⟨rfl, rfl⟩))
    go_ret
    exact ⟨by rw [HE.out]; rfl, HB2.out⟩
abbrev RCutAt (w : World) (q : Nat) (l : List Int) (z : Int) (b : Bool) : Prop := ∀ W lv, Below w.heap.size w W → ReadPts W lv l → Calls Tryz.prog 24 #[.pointer (some ⟨q, 0, none⟩), lv, .int .i64 z] W fun e W' => e = .returned (.bool b) ∧ Below W.heap.size W W'
theorem rcutAt {w : World} {q : Nat} {st : St} (H : RefAt q w st) (hg : Nm.Good st.d) {l : List Int} {z : Int} {b : Bool} (h : cutB st.d l z = b) (h32 : ∀ x ∈ l, B32 x) (hl : l.length ≤ 1073741824) : RCutAt w q l z b := fun W lv hb hr =>
  (rcut_calls H hg z hb hr h32 hl).mono fun e w' h' => by rw [h] at h'; exact h'
end Go.Proofs.YtikpkjpnehkbfaaGreatDoor.Nw
