/- The reference's lines of fold and decomp: the walk. -/
import Derived.Test.YtikpkjpnehkbfaaGreatDoorRefSpoken
import Derived.BigRegion
namespace Go.Proofs.YtikpkjpnehkbfaaGreatDoor.Rf
open Go Go.RowKit Go.Shelf Go.Proofs.YtikpkjpnehkbfaaGreatDoor.Sp Go.Proofs.YtikpkjpnehkbfaaGreatDoor.Pr Go.Proofs.YtikpkjpnehkbfaaGreatDoor.Rowl
set_option linter.unusedSimpArgs false

theorem pointsOf_snoc : ∀ (l : List Bytes) (w : Bytes), pointsOf (l ++ [w]) = (match pointsOf l with | .error e => .error e | .ok ns => (match pointOf w with | .error e => .error e | .ok n => .ok (ns ++ [n])))
  | [], w => by
    simp only [List.nil_append, pointsOf]
    cases pointOf w <;> rfl
  | x :: l, w => by
    simp only [List.cons_append, pointsOf]
    cases pointOf x with
    | error e => rfl
    | ok n =>
      simp only
      rw [pointsOf_snoc l w]
      cases pointsOf l with
      | error e => rfl
      | ok ns =>
        simp only
        cases pointOf w <;> rfl
theorem pointsOf_err {e : Int} {l : List Bytes} (h : pointsOf l = .error e) : ∀ m : List Bytes, pointsOf (l ++ m) = .error e := by
  intro m
  induction m generalizing l with
  | nil => simpa using h
  | cons x m ih =>
    rw [show l ++ x :: m = (l ++ [x]) ++ m by simp]
    refine ih ?_
    rw [pointsOf_snoc, h]
theorem own_nil' (base : Nat) (W : World) : OwnPts base W (.slice none 0 0) [] := ⟨rfl, .inl ⟨rfl, rfl⟩⟩
/-- One point, just boxed, appended to a row of points of a call's own. -/
theorem wpList_append_pt {ops : Array Oper} {rest : List Oper} {o : Oper} {ac : Act} {Q : Exit → Act → World → Prop} {W : World} {y : Int} (hgd : o.guard = none) (s x : Operand)
    (ho : o.op = .call { callee := .builtin .append, args := #[s, x], argTypes := #[22, 22] })
    (base : Nat) (v : Value) (L : List Int) (hs : ac.eval s = v) (hown : OwnPts base W v L) (hx : ac.eval x = .slice (some ⟨W.heap.size, 0, none⟩) 1 1)
    (h63 : L.length ≤ 1048577) (hbase : base ≤ W.heap.size)
    (h : ∀ v' w', OwnPts base w' v' (L ++ [y]) → Below base W w' → wpList Tryz.prog ops Q rest (ac.put o.dst v') w') :
    wpList Tryz.prog ops Q (o :: rest) ac (W.alloc (.cells #[.int .i32 y] 21)) := by
  obtain ⟨i, hi, hz0, hz1, hz2⟩ := info_parts infoRune
  refine wpList_append_own_at (W.alloc (.cells #[.int .i32 y] 21)) hgd s x 22 ho base 21 i (.int .i32 0) 1 4 Tryz.underlying22 hi hz0 hz1 hz2 rfl (by decide) v L.length (enc L) hs (World.ownsRow.alloc hown _) ⟨W.heap.size, 0, none⟩ 1 1 (enc [y]) hx (by simp [enc]) (cells_laid W (enc [y]) rfl (by simp [enc, maxLen])) (enc_one [y]) (by simp only [maxLen]; omega) (by omega) (by rw [World.size_alloc]; omega) ?_
  intro v' w' ho' hg _ _
  refine h v' w' ?_ (((Below.refl _ W).alloc hbase _).grown hg (by rw [World.size_alloc]; omega) (fun k e => (own_block hown e).1))
  unfold OwnPts
  rw [show enc (L ++ [y]) = enc L ++ enc [y] by simp [enc], List.length_append]
  exact ho'
/-- What a line of fold or decomp comes to. -/
def singleOf (isF : Bool) (F D : List (Int × List Int)) (ws : List Bytes) : Except Int (Int × List Int) :=
  match pointsOf ws.tail with
  | .error e => .error e
  | .ok [] => .error 2
  | .ok (r :: ps) => if isF then (if (lookD F r).isSome then .error 13 else .ok (r, ps)) else (if (lookD D r).isSome then .error 13 else if isSyl r || isJamo r then .error 1 else .ok (r, ps))
def SOut (q n₀ : Nat) (v : Nat → Value) (xs : Nat → List Value) (n : Nat → Nat) (at_ : Int) (isF : Bool) (o : Except Int (Int × List Int)) (w : World) (e : Ending) (w' : World) : Prop :=
  match o with
  | .error k => e = .returned (.int .i64 k) ∧ Below w.heap.size w w'
  | .ok p => e = .returned (.int .i64 0) ∧ ∃ tv, PtsB w' tv p.2 ∧ Put q n₀ (if isF then 2 else 3) v xs n [.int .i64 p.1, tv, .int .i64 at_] w w'
/-- Between two words: how far, and what the local row holds. -/
def XI (X : Nat) (ws : List Bytes) (k : Nat) (wr : World) (of : Int) (tv : Value) (ps : List Int) (at_ : Int) : Prop :=
  wr.heap[X]? = some (.cells #[.int .i64 of, tv, .int .i64 at_] 147 (0, 0)) ∧ OwnPts (X + 1) wr tv ps ∧ ((k = 1 ∧ ps = [] ∧ of = 0) ∨ (2 ≤ k ∧ pointsOf (ws.tail.take (k - 1)) = .ok (of :: ps)))
theorem own_later {n₀ : Nat} {W W' : World} {tv : Value} {ps : List Int} (h : OwnPts n₀ W tv ps) (hb : Below W.heap.size W W') : OwnPts n₀ W' tv ps := by
  obtain ⟨h1, h2⟩ := h
  refine ⟨h1, ?_⟩
  rcases h2 with h2 | ⟨g, cap, cur, rfl, hg, hh, r⟩
  · exact .inl h2
  · exact .inr ⟨g, cap, cur, rfl, hg, (hb.block g (lt_of_block hh)).trans hh, r⟩
theorem own_set {X i : Nat} {W : World} {tv u : Value} {ps : List Int} (h : OwnPts (X + 1) W tv ps) : OwnPts (X + 1) (W.setCell ⟨X, i, none⟩ u) tv ps :=
  World.ownsRow.kept h (setCell_grown W ⟨X, i, none⟩ u) (.inr (fun e => absurd (own_block h e).1 (Nat.not_succ_le_self X)))
theorem take_next {ws : List Bytes} {k : Nat} {x : Bytes} (hk : 1 ≤ k) (h : ws[k]? = some x) : ws.tail.take k = ws.tail.take (k - 1) ++ [x] := by
  have e : ws.tail[k - 1]? = some x := by rw [List.getElem?_tail]; rwa [show k - 1 + 1 = k by omega]
  have := List.take_add_one (l := ws.tail) (i := k - 1)
  rw [show k - 1 + 1 = k by omega, e] at this
  exact this
theorem XI.first {X : Nat} {ws : List Bytes} {wr w1 : World} {of : Int} {tv : Value} {ps : List Int} {at_ : Int} (h : XI X ws 1 wr of tv ps at_) (hb : Below wr.heap.size wr w1) {x : Bytes} (hw : ws[1]? = some x) {y : Int} (hp : pointOf x = .ok y) : XI X ws 2 (w1.setCell ⟨X, 0, none⟩ (.int .i64 y)) y tv ps at_ := by
  obtain ⟨h1, h2, h3⟩ := h
  have e1 : w1.heap[X]? = _ := (hb.block X (lt_of_block h1)).trans h1
  refine ⟨by rw [heap_setCell_same w1 X 0 _ _ _ e1]; rfl, own_set (own_later h2 hb), .inr ⟨Nat.le_refl _, ?_⟩⟩
  rcases h3 with ⟨_, rfl, rfl⟩ | ⟨hk, _⟩
  · rw [take_next (Nat.le_refl 1) hw]
    simp [pointsOf, hp]
  · omega
theorem XI.next {X k : Nat} {ws : List Bytes} {wr w1 w2 : World} {of : Int} {tv tv2 : Value} {ps : List Int} {at_ : Int} (h : XI X ws k wr of tv ps at_) (hk : 2 ≤ k) (hb : Below wr.heap.size wr w1) {x : Bytes} (hw : ws[k]? = some x) {y : Int} (hp : pointOf x = .ok y) (ho : OwnPts (X + 1) w2 tv2 (ps ++ [y])) (hb2 : Below (X + 1) w1 w2) : XI X ws (k + 1) (w2.setCell ⟨X, 1, none⟩ tv2) of tv2 (ps ++ [y]) at_ := by
  obtain ⟨h1, h2, h3⟩ := h
  have e1 : w1.heap[X]? = _ := (hb.block X (lt_of_block h1)).trans h1
  have e2 : w2.heap[X]? = _ := (hb2.block X (by omega)).trans e1
  refine ⟨by rw [heap_setCell_same w2 X 1 _ _ _ e2]; rfl, own_set ho, .inr ⟨by omega, ?_⟩⟩
  rcases h3 with ⟨hk1, _⟩ | ⟨_, h3⟩
  · omega
  · rw [show k + 1 - 1 = k by omega, take_next (by omega) hw, pointsOf_snoc, h3]
    simp [hp]
theorem XI.bad {X k : Nat} {ws : List Bytes} {wr : World} {of : Int} {tv : Value} {ps : List Int} {at_ : Int} (h : XI X ws k wr of tv ps at_) (hk : 1 ≤ k) {x : Bytes} (hw : ws[k]? = some x) {e : Int} (hp : pointOf x = .error e) : pointsOf ws.tail = .error e := by
  obtain ⟨_, _, h3⟩ := h
  have e1 : pointsOf (ws.tail.take k) = .error e := by
    rw [take_next hk hw, pointsOf_snoc]
    rcases h3 with ⟨rfl, _⟩ | ⟨_, h3⟩
    · simp [pointsOf, hp]
    · rw [h3]; simp [hp]
  have := pointsOf_err e1 (ws.tail.drop k)
  rwa [List.take_append_drop] at this
theorem XI.size {X k : Nat} {ws : List Bytes} {wr : World} {of : Int} {tv : Value} {ps : List Int} {at_ : Int} (h : XI X ws k wr of tv ps at_) (hl : k ≤ ws.length) : ps.length ≤ ws.length := by
  rcases h.2.2 with ⟨_, rfl, _⟩ | ⟨_, h3⟩
  · simp
  · have := (pointsOf_chars h3).1
    rw [List.length_take, List.length_tail] at this
    simp at this
    omega
theorem err_pos {w : Bytes} {k : Int} (h : pointOf w = .error k) : 0 < k := by
  unfold pointOf at h
  split at h
  · simp only [Except.error.injEq] at h; omega
  · split at h
    · cases h
    · simp only [Except.error.injEq] at h; omega
theorem PtsB.own {n₀ : Nat} {W : World} {v : Value} {l : List Int} (h : OwnPts n₀ W v l) (hl : 0 < l.length) : PtsB W v l := by
  obtain ⟨h1, h2⟩ := h
  rcases h2 with ⟨_, h2⟩ | ⟨g, cap, cur, rfl, hb, hh, hn, hm, hs, ht⟩
  · omega
  · refine ⟨g, 0, cap, cur, rfl, hh, hn, hm, fun i x hi => ?_⟩
    have hi2 : i < l.length := (List.getElem?_eq_some_iff.1 hi).1
    have e : (cur.toList.take (l.length * 1))[i]? = (enc l)[i]? := by rw [ht]
    rw [List.getElem?_take_of_lt (by omega), Array.getElem?_toList] at e
    rw [show 0 + i = i by omega, e]
    unfold enc
    rw [List.getElem?_map, hi]
    rfl
theorem infoLine : (Tryz.prog.info? 147).map (fun i => (i.zero, i.size, i.bytes)) = some (some (.agg #[.int .i64 0, .slice none 0 0, .int .i64 0]), 3, 40) := by kernel_rfl
theorem own_heap {W W' : World} (e : W.heap = W'.heap) {b t s m : Nat} {v : Value} {xs : List Value} (h : W.ownsRow b t s v m xs) : W'.ownsRow b t s v m xs := by
  obtain ⟨h1, h2⟩ := h
  refine ⟨h1, ?_⟩
  rw [e] at h2
  exact h2
theorem pts_heap {W W' : World} (e : W.heap = W'.heap) {v : Value} {l : List Int} (h : PtsB W v l) : PtsB W' v l := by
  obtain ⟨b, off, cap, cs, h1, h2, r⟩ := h
  exact ⟨b, off, cap, cs, h1, by rw [← e]; exact h2, r⟩
theorem s_close {q n₀ i : Nat} {v : Nat → Value} {xs : Nat → List Value} {n : Nat → Nat} {w wr w5 w' : World} {of at_ : Int} {tv : Value} {ps : List Int} {x4 : Nat → Value} {x5 : Nat → List Value} {x6 : Nat → Nat} (hr : Below w.heap.size w wr) (h5 : Below wr.heap.size wr w5) (hn : n₀ ≤ w.heap.size) (H : Ref4 q n₀ w5.drew x4 x5 x6) (hp : PtsB wr tv ps) (hf : Put q n₀ i v xs n [.int .i64 of, tv, .int .i64 at_] w5.drew w') :
    (Ending.returned (.int .i64 0) = Ending.returned (.int .i64 0)) ∧ ∃ tv', PtsB w' tv' ps ∧ Put q n₀ i v xs n [.int .i64 of, tv', .int .i64 at_] w w' := by
  have hb := (below_then hr h5).drew
  have hp5 : PtsB w5.drew tv ps := pts_heap (W := w5) rfl (PtsB.later h5 hp)
  refine ⟨rfl, tv, ?_, hf.behind hb hn⟩
  obtain ⟨v', _, fr⟩ := hf
  exact fr.pts ⟨_, H.hp⟩ hp5
theorem single_few (q : Nat) (a : Option Addr) (m c : Nat) (at_ : Int) (w : World) (h : m < 3) : Calls Tryz.prog 90 #[.pointer (some ⟨q, 0, none⟩), .slice a m c, .int .i64 at_] w fun e w' => e = .returned (.int .i64 2) ∧ Below w.heap.size w w' := by
  have h' : (m : Int) < 3 := by omega
  go_enter Tryz.func90, Tryz.ntmps90
  go_wp2
  go_ret
  exact ⟨rfl, Below.refl _ _⟩
set_option maxRecDepth 100000 in
theorem single_lots (q : Nat) (a : Option Addr) (m c : Nat) (at_ : Int) (w : World) (h : 10 < m) : Calls Tryz.prog 90 #[.pointer (some ⟨q, 0, none⟩), .slice a m c, .int .i64 at_] w fun e w' => e = .returned (.int .i64 5) ∧ Below w.heap.size w w' := by
  have h1 : ¬ (m : Int) < 3 := by omega
  have h2 : (10 : Int) < (m : Int) := by omega
  go_enter Tryz.func90, Tryz.ntmps90
  go_wp2
  go_ret
  exact ⟨rfl, Below.refl _ _⟩
theorem char_bounds {n : Int} (h : isChar n = true) : 0 ≤ n ∧ n ≤ 1114111 := by
  unfold isChar at h
  simp only [Bool.and_eq_true, decide_eq_true_eq] at h
  exact h.1
set_option maxHeartbeats 800000 in
set_option maxRecDepth 100000 in
theorem single_calls (q n₀ : Nat) (v : Nat → Value) (xs : Nat → List Value) (n : Nat → Nat) (at_ : Int) (w : World) (h : Ref4 q n₀ w v xs n) (hn₀ : n₀ ≤ w.heap.size) (hm2 : n 2 ≤ 1048576) (hm3 : n 3 ≤ 1048576) (b off c : Nat) (ws : List ByteArray) (hws : ∀ x ∈ ws, x.size ≤ 1048576)
    (hc : ∀ i s, ws[i]? = some s → w.cell? ⟨b, off + i, none⟩ = some (.string s)) (h3 : 3 ≤ ws.length) (h10 : ws.length ≤ 10) (s0 : ByteArray) (hs0 : ws[0]? = some s0) (isF : Bool) (hF : (s0.toList == [102, 111, 108, 100]) = isF)
    (F D : List (Int × List Int)) (kf kd : List Int) (hf : LinesMean w (xs 2) F kf) (hfl : n 2 = F.length) (hd : LinesMean w (xs 3) D kd) (hdl : n 3 = D.length) :
    Calls Tryz.prog 90 #[.pointer (some ⟨q, 0, none⟩), .slice (some ⟨b, off, none⟩) ws.length c, .int .i64 at_] w fun e w' => SOut q n₀ v xs n at_ isF (singleOf isF F D (wl ws)) w e w' := by
  have H := Lib.hid h
  have HC := Lib.hid hc
  have HS := Lib.hid hws
  have HM := Lib.hid (And.intro hf (And.intro hfl (And.intro hd hdl)))
  have H0 := Lib.hid hs0
  have hwl : (wl ws).tail.length = ws.length - 1 := by rw [List.length_tail, wl_length]
  have HWL := Lib.hid hwl
  clear h hc hws hf hfl hd hdl hs0 hwl
  go_enter Tryz.func90, Tryz.ntmps90
  go_wp2
  go_loopw [8] (fun vi wr => ∃ (k : Nat) (of : Int) (tv : Value) (ps : List Int), vi = .int .i64 k ∧ 1 ≤ k ∧ k ≤ ws.length ∧ Hid (XI w.heap.size (wl ws) k wr of tv ps at_) ∧ Hid (Below w.heap.size w wr)) (fun vi _ => ws.length - (intOf vi).toNat)
  case atStart =>
    refine ⟨1, 0, .slice none 0 0, [], rfl, by omega, by omega, Lib.hid ⟨?_, own_nil' _ _, .inl ⟨rfl, rfl, rfl⟩⟩, Lib.hid ?_⟩
    · exact heap_alloc_new w _
    · exact (Below.refl _ w).alloc (Nat.le_refl _) _
  case round =>
    obtain ⟨k, of, tv, ps, rfl, hk1, hk, HX, HR⟩ := hrel
    have hx0 := HX.out.1
    have hc0 : wr.cell? ⟨w.heap.size, 0, none⟩ = some (.int .i64 of) := by rw [cell_of_row wr _ 0 _ _ (0, 0) hx0]; rfl
    have hc1 : wr.cell? ⟨w.heap.size, 1, none⟩ = some tv := by rw [cell_of_row wr _ 1 _ _ (0, 0) hx0]; rfl
    have hc2 : wr.cell? ⟨w.heap.size, 2, none⟩ = some (.int .i64 at_) := by rw [cell_of_row wr _ 2 _ _ (0, 0) hx0]; rfl
    have hfz : wr.frozen? ⟨w.heap.size, 0, none⟩ = false := by simp [World.frozen?, hx0]
    have hfz1 : wr.frozen? ⟨w.heap.size, 1, none⟩ = false := by simp [World.frozen?, hx0]
    clear hx0
    by_cases hlt : k < ws.length
    · obtain ⟨s, hs⟩ : ∃ s, ws[k]? = some s := ⟨_, List.getElem?_eq_getElem hlt⟩
      have hcs := cell_later HR.out (HC.out k s hs)
      have HSK := Lib.hid hs
      clear hs
      cases hp : pointOf s.data.toList with
      | error e =>
        have HPT := Lib.hid (point_err hp)
        have HPE := Lib.hid hp
        have hkp := err_pos hp
        have hkn : (e != 0) = true := bne_iff_ne.2 (by omega)
        have HO : Hid (singleOf isF F D (wl ws) = .error e) := Lib.hid (by unfold singleOf; rw [HX.out.bad hk1 (wl_at HSK.out) hp])
        clear hp
        go_wp2_with (go_at_call 129; refine (HPT.out _).mono ?_; rintro e w1 ⟨rfl, hb1⟩)
        go_ret
        rw [HO.out]
        exact ⟨rfl, below_then HR.out hb1⟩
      | ok y =>
        have HPT := Lib.hid (point_ok hp)
        have HPE := Lib.hid hp
        obtain ⟨hy0, hy1⟩ := char_bounds (pointOf_char hp)
        clear hp
        by_cases hk2 : k = 1
        · subst hk2
          go_wp2_with (go_at_call 129; refine (HPT.out _).mono ?_; rintro e w1 ⟨rfl, hb1⟩; have d0 := cell_later hb1 hc0; have d1 : w1.frozen? ⟨w.heap.size, 0, none⟩ = false := (hb1.frozen (p := ⟨w.heap.size, 0, none⟩) (World.block_lt_of_cell? _ _ hc0)).trans hfz; have HN := Lib.hid (HX.out.first hb1 (wl_at HSK.out) HPE.out); have HW := Lib.hid ((below_then HR.out hb1).setCell (p := ⟨w.heap.size, 0, none⟩) (Nat.le_refl _) (.int .i64 y)); clear hb1)
          refine ⟨⟨2, y, tv, ps, by go_num, by omega, by omega, HN, HW⟩, ?_⟩
          simp [intOf]
          omega
        · have hk3 : ((k : Int) == 1) = false := by rw [beq_eq_false_iff_ne]; omega
          have hpl : ps.length ≤ 1048577 := by have := HX.out.size (by rw [wl_length]; exact hk); rw [wl_length] at this; omega
          obtain ⟨A, C, rfl⟩ := own_slice HX.out.2.1
          go_wp2_with (first
            | (go_at_call 129; refine (HPT.out _).mono ?_; rintro e w1 ⟨rfl, hb1⟩; have d0 := cell_later hb1 hc1; have d1 : w1.frozen? ⟨w.heap.size, 1, none⟩ = false := (hb1.frozen (p := ⟨w.heap.size, 1, none⟩) (World.block_lt_of_cell? _ _ hc1)).trans hfz1; have HB1 := Lib.hid hb1; have HOW := Lib.hid (own_later HX.out.2.1 hb1); have hxz : w.heap.size + 1 ≤ w1.heap.size := Nat.le_trans (World.block_lt_of_cell? _ _ hc1) hb1.size; clear hb1)
            | (at_builtin; go_must (refine wpList_append_pt rfl _ _ rfl (w.heap.size + 1) _ ps rfl HOW.out rfl (by omega) hxz ?_; intro tv2 w2 ho2 hb2; obtain ⟨A2, C2, rfl⟩ := own_slice ho2; rw [List.length_append] at ho2; replace ho2 : OwnPts (w.heap.size + 1) w2 (.slice A2 (ps.length + 1) C2) (ps ++ [y]) := ho2; have d2 : w2.cell? ⟨w.heap.size, 1, none⟩ = _ := (hb2.cell (p := ⟨w.heap.size, 1, none⟩) (Nat.lt_succ_self _)).trans d0; have d3 : w2.frozen? ⟨w.heap.size, 1, none⟩ = false := (hb2.frozen (p := ⟨w.heap.size, 1, none⟩) (Nat.lt_succ_self _)).trans d1; have HN := Lib.hid (HX.out.next (by omega) HB1.out (wl_at HSK.out) HPE.out ho2 hb2); have HW := Lib.hid (((below_then HR.out HB1.out).trans (hb2.mono (Nat.le_succ _))).setCell (p := ⟨w.heap.size, 1, none⟩) (Nat.le_refl _) (.slice A2 (ps.length + 1) C2)); clear ho2 hb2)))
          refine ⟨⟨k + 1, of, .slice A2 (ps.length + 1) C2, ps ++ [y], by go_num, by omega, by omega, HN, HW⟩, ?_⟩
          simp [intOf]
          omega
    · have hke : k = ws.length := by omega
      subst hke
      have hpo : pointsOf (wl ws).tail = .ok (of :: ps) := by
        rcases HX.out.2.2 with ⟨h1, _⟩ | ⟨_, h2⟩
        · omega
        · rwa [List.take_of_length_le (by rw [HWL.out]; exact Nat.le_refl _)] at h2
      have hpl : ps.length + 1 = ws.length - 1 := by
        have := (pointsOf_chars hpo).1
        rw [HWL.out] at this
        simpa using this
      have HPB := Lib.hid (PtsB.own HX.out.2.1 (by omega))
      have HPO := Lib.hid hpo
      have c0s : wr.cell? ⟨b, off, none⟩ = some (.string s0) := by
        have := cell_later HR.out (HC.out 0 s0 H0.out)
        simpa using this
      have hw2 := H.out.later HR.out
      have hxl := World.block_lt_of_cell? _ _ hc0
      have LF := Lib.hid (HM.out.1.map (fun _ _ => PtsB.later HR.out))
      have LD := Lib.hid (HM.out.2.2.1.map (fun _ _ => PtsB.later HR.out))
      have H2 := Lib.hid hw2
      obtain ⟨ii, hi0, hz0, hz1, hz2⟩ := info_parts infoLine
      obtain ⟨A, C, rfl⟩ := own_slice HX.out.2.1
      clear hpo
      cases isF with
      | true =>
        have q2 : wr.cell? ⟨q, 2, none⟩ = some (v 2) := by rw [cell_of_row wr _ 2 _ _ (0, 0) hw2.hp]; rfl
        have hO2 := hw2.own 2 (by decide)
        have HO2 := Lib.hid hO2
        have HS2 : Hid (Calls Tryz.prog 130 #[v 2, .int .i64 of] wr.drew fun e w' => e = .returned (.bool (lookD F of).isSome) ∧ wr.drew = w') := Lib.hid (spoken_calls of (own_heap (W' := wr.drew) rfl hO2) (LinesMean.map (W := wr) (W' := wr.drew) (fun _ _ h => pts_heap (W := wr) (W' := wr.drew) rfl h) LF.out) HM.out.2.1)
        obtain ⟨Af, Cf, hfv⟩ := own_slice hO2
        rw [hfv] at HS2 q2
        have HFV := Lib.hid hfv
        have HO3 : Hid (wr.ownsRow n₀ (ty 2) 3 (.slice Af (n 2) Cf) (n 2) (xs 2)) := Lib.hid (by rw [← hfv]; exact hO2)
        have hqx : q < wr.heap.size := lt_of_block hw2.hp
        clear hw2 hO2 hfv
        by_cases htw : (lookD F of).isSome = true
        · have HO : Hid (singleOf true F D (wl ws) = .error 13) := Lib.hid (by unfold singleOf; rw [HPO.out]; simp [htw])
          rw [htw] at HS2
          clear htw
          go_wp2
          go_region_held3 (fun w' => w'.cell? ⟨q, 2, none⟩ = some (.slice Af (n 2) Cf) ∧ w'.cell? ⟨w.heap.size, 0, none⟩ = some (.int .i64 of)) (go_keep) ((go_at_call 130; (with_reducible refine HS2.out.mono ?_); rintro e w5 ⟨rfl, rfl⟩))
          go_wp2
          go_ret
          rw [HO.out]
          exact ⟨rfl, HR.out.drew⟩
        · have htw' : (lookD F of).isSome = false := by simpa using htw
          have HO : Hid (singleOf true F D (wl ws) = .ok (of, ps)) := Lib.hid (by unfold singleOf; rw [HPO.out]; simp [htw'])
          rw [htw'] at HS2
          clear htw htw'
          go_wp2
          go_region_held3 (fun w' => w'.cell? ⟨q, 2, none⟩ = some (.slice Af (n 2) Cf) ∧ w'.cell? ⟨w.heap.size, 0, none⟩ = some (.int .i64 of)) (go_keep) ((go_at_call 130; (with_reducible refine HS2.out.mono ?_); rintro e w5 ⟨rfl, hw5⟩; have hb5 : Below wr.heap.size wr w5 := (by rw [← hw5]; exact (Below.refl _ wr).drew); have k1 := cell_later hb5 q2; have k2 := cell_later hb5 hc0; clear hw5))
          have HB5 := Lib.hid hb5
          have k3 := cell_later hb5 hc1
          have k4 := cell_later hb5 hc2
          have hw5 := H2.out.later hb5
          have H5 := Lib.hid (hw5.later (Below.refl _ w5).drew)
          have hown : w5.ownsRow n₀ 147 3 (.slice Af (n 2) Cf) (n 2) (xs 2) := by rw [← HFV.out]; exact hw5.own 2 (by decide)
          have hbase : n₀ ≤ w5.heap.size := Nat.le_trans hn₀ (Nat.le_trans HR.out.size hb5.size)
          have y1 := Lib.cell?_alloc_some (.cells #[.int .i64 of, .slice A ps.length C, .int .i64 at_] 147) k1
          have y2 := Lib.cell?_alloc_some (.cells #[.int .i64 of, .slice A ps.length C, .int .i64 at_] 147) k2
          have y3 := Lib.cell?_alloc_some (.cells #[.int .i64 of, .slice A ps.length C, .int .i64 at_] 147) k3
          have y4 := Lib.cell?_alloc_some (.cells #[.int .i64 of, .slice A ps.length C, .int .i64 at_] 147) k4
          clear hw5 hb5 hF
          go_wp2
          go_region_law (refine step_append_lies _ (by rfl) _ _ _ (by rfl) n₀ 147 ii _ 3 40 Tryz.underlying139 hi0 hz0 hz1 hz2 rfl (by omega) _ _ _ (by rfl) ((hown.alloc _).drew) ⟨w5.heap.size, 0, none⟩ 1 1 [.int .i64 of, .slice A ps.length C, .int .i64 at_] (by rfl) (by rfl) (World.news_of_block (cs := #[.int .i64 of, .slice A ps.length C, .int .i64 at_]) (t := 147) (fr := (0, 0)) (heap_alloc_new w5 _)) (by simp [Value.oneCell']) (by omega) (by simp only [maxLen]; omega) (by omega) (by simp; omega) (w5.heap.size + 1) (by simp) ?_; intro gg cap w4 hown4 hgrow hat hgl; have hgrow2 : (w5.drew.alloc (.cells #[.int .i64 of, .slice A ps.length C, .int .i64 at_] 147)).grownBy w4 (v 2).ownBlock := (by rw [HFV.out]; exact hgrow); obtain ⟨z1, z2⟩ := field_kept H5.out (i := 2) (by decide) hgrow2; rw [HFV.out] at z1; have HF := Lib.hid (put_close H5.out (i := 2) (by decide) hbase _ hgrow2 hown4 (by rw [HFV.out]; exact hat) rfl); clear hown4 hgrow hat hgl hgrow2)
          all_goals
            go_wp2
            go_ret
            rw [HO.out]
            exact s_close HR.out HB5.out hn₀ H5.out HPB.out HF.out
      | false =>
        have q2 : wr.cell? ⟨q, 3, none⟩ = some (v 3) := by rw [cell_of_row wr _ 3 _ _ (0, 0) hw2.hp]; rfl
        have hO2 := hw2.own 3 (by decide)
        have HS2 : Hid (Calls Tryz.prog 130 #[v 3, .int .i64 of] wr.drew fun e w' => e = .returned (.bool (lookD D of).isSome) ∧ wr.drew = w') := Lib.hid (spoken_calls of (own_heap (W' := wr.drew) rfl hO2) (LinesMean.map (W := wr) (W' := wr.drew) (fun _ _ h => pts_heap (W := wr) (W' := wr.drew) rfl h) LD.out) HM.out.2.2.2)
        obtain ⟨Af, Cf, hfv⟩ := own_slice hO2
        rw [hfv] at HS2 q2
        have HFV := Lib.hid hfv
        have hqx : q < wr.heap.size := lt_of_block hw2.hp
        clear hw2 hO2 hfv
        by_cases htw : (lookD D of).isSome = true
        · have HO : Hid (singleOf false F D (wl ws) = .error 13) := Lib.hid (by unfold singleOf; rw [HPO.out]; simp [htw])
          rw [htw] at HS2
          clear htw
          go_wp2
          go_region_held3 (fun w' => w'.cell? ⟨q, 3, none⟩ = some (.slice Af (n 3) Cf) ∧ w'.cell? ⟨w.heap.size, 0, none⟩ = some (.int .i64 of)) (go_keep) ((go_at_call 130; (with_reducible refine HS2.out.mono ?_); rintro e w5 ⟨rfl, rfl⟩))
          go_wp2
          go_ret
          rw [HO.out]
          exact ⟨rfl, HR.out.drew⟩
        · have htw' : (lookD D of).isSome = false := by simpa using htw
          rw [htw'] at HS2
          have hcase : (isSyl of = true ∧ singleOf false F D (wl ws) = .error 1) ∨ (isSyl of = false ∧ isJamo of = true ∧ singleOf false F D (wl ws) = .error 1) ∨ (isSyl of = false ∧ isJamo of = false ∧ singleOf false F D (wl ws) = .ok (of, ps)) := by
            unfold singleOf
            rw [HPO.out]
            cases h1 : isSyl of <;> cases h2 : isJamo of <;> simp [htw', h1, h2]
          clear htw htw'
          rcases hcase with ⟨z1, hHO⟩ | ⟨z1, z2, hHO⟩ | ⟨z1, z2, hHO⟩
          · have HO := Lib.hid hHO
            clear hHO
            go_wp2
            go_region_held3 (fun w' => w'.cell? ⟨q, 3, none⟩ = some (.slice Af (n 3) Cf) ∧ w'.cell? ⟨w.heap.size, 0, none⟩ = some (.int .i64 of)) (go_keep) ((go_at_call 130; (with_reducible refine HS2.out.mono ?_); rintro e w5 ⟨rfl, hw5⟩; have hb5 : Below wr.heap.size wr w5 := (by rw [← hw5]; exact (Below.refl _ wr).drew); have k1 := cell_later hb5 q2; have k2 := cell_later hb5 hc0; clear hw5))
            have HB5 := Lib.hid hb5
            clear hb5
            go_wp2_with (first
              | (go_at_call 101; (with_reducible refine (syl_calls _ _).mono ?_); rintro e w6 ⟨rfl, hw⟩; subst w6)
              | (go_at_call 102; (with_reducible refine (jam_calls _ _).mono ?_); rintro e w6 ⟨rfl, hw⟩; subst w6))
            go_ret
            rw [HO.out]
            exact ⟨rfl, below_then HR.out HB5.out⟩
          · have HO := Lib.hid hHO
            clear hHO
            go_wp2
            go_region_held3 (fun w' => w'.cell? ⟨q, 3, none⟩ = some (.slice Af (n 3) Cf) ∧ w'.cell? ⟨w.heap.size, 0, none⟩ = some (.int .i64 of)) (go_keep) ((go_at_call 130; (with_reducible refine HS2.out.mono ?_); rintro e w5 ⟨rfl, hw5⟩; have hb5 : Below wr.heap.size wr w5 := (by rw [← hw5]; exact (Below.refl _ wr).drew); have k1 := cell_later hb5 q2; have k2 := cell_later hb5 hc0; clear hw5))
            have HB5 := Lib.hid hb5
            clear hb5
            go_wp2_with (first
              | (go_at_call 101; (with_reducible refine (syl_calls _ _).mono ?_); rintro e w6 ⟨rfl, hw⟩; subst w6)
              | (go_at_call 102; (with_reducible refine (jam_calls _ _).mono ?_); rintro e w6 ⟨rfl, hw⟩; subst w6))
            go_ret
            rw [HO.out]
            exact ⟨rfl, below_then HR.out HB5.out⟩
          · have HO := Lib.hid hHO
            clear hHO
            go_wp2
            go_region_held3 (fun w' => w'.cell? ⟨q, 3, none⟩ = some (.slice Af (n 3) Cf) ∧ w'.cell? ⟨w.heap.size, 0, none⟩ = some (.int .i64 of)) (go_keep) ((go_at_call 130; (with_reducible refine HS2.out.mono ?_); rintro e w5 ⟨rfl, hw5⟩; have hb5 : Below wr.heap.size wr w5 := (by rw [← hw5]; exact (Below.refl _ wr).drew); have k1 := cell_later hb5 q2; have k2 := cell_later hb5 hc0; clear hw5))
            have HB5 := Lib.hid hb5
            have k3 := cell_later hb5 hc1
            have k4 := cell_later hb5 hc2
            have hw5 := H2.out.later hb5
            have H5 := Lib.hid (hw5.later (Below.refl _ w5).drew)
            have hown : w5.ownsRow n₀ 147 3 (.slice Af (n 3) Cf) (n 3) (xs 3) := by rw [← HFV.out]; exact hw5.own 3 (by decide)
            have hbase : n₀ ≤ w5.heap.size := Nat.le_trans hn₀ (Nat.le_trans HR.out.size hb5.size)
            have y1 := Lib.cell?_alloc_some (.cells #[.int .i64 of, .slice A ps.length C, .int .i64 at_] 147) k1
            have y2 := Lib.cell?_alloc_some (.cells #[.int .i64 of, .slice A ps.length C, .int .i64 at_] 147) k2
            have y3 := Lib.cell?_alloc_some (.cells #[.int .i64 of, .slice A ps.length C, .int .i64 at_] 147) k3
            have y4 := Lib.cell?_alloc_some (.cells #[.int .i64 of, .slice A ps.length C, .int .i64 at_] 147) k4
            clear hw5 hb5 hF
            go_wp2_with (first
              | (go_at_call 101; (with_reducible refine (syl_calls _ _).mono ?_); rintro e w6 ⟨rfl, hw⟩; subst w6)
              | (go_at_call 102; (with_reducible refine (jam_calls _ _).mono ?_); rintro e w6 ⟨rfl, hw⟩; subst w6))
            go_region_law (refine step_append_lies _ (by rfl) _ _ _ (by rfl) n₀ 147 ii _ 3 40 Tryz.underlying139 hi0 hz0 hz1 hz2 rfl (by omega) _ _ _ (by rfl) ((hown.alloc _).drew) ⟨w5.heap.size, 0, none⟩ 1 1 [.int .i64 of, .slice A ps.length C, .int .i64 at_] (by rfl) (by rfl) (World.news_of_block (cs := #[.int .i64 of, .slice A ps.length C, .int .i64 at_]) (t := 147) (fr := (0, 0)) (heap_alloc_new w5 _)) (by simp [Value.oneCell']) (by omega) (by simp only [maxLen]; omega) (by omega) (by simp; omega) (w5.heap.size + 1) (by simp) ?_; intro gg cap w4 hown4 hgrow hat hgl; have hgrow2 : (w5.drew.alloc (.cells #[.int .i64 of, .slice A ps.length C, .int .i64 at_] 147)).grownBy w4 (v 3).ownBlock := (by rw [HFV.out]; exact hgrow); obtain ⟨z1, z2⟩ := field_kept H5.out (i := 3) (by decide) hgrow2; rw [HFV.out] at z1; have HF := Lib.hid (put_close H5.out (i := 3) (by decide) hbase _ hgrow2 hown4 (by rw [HFV.out]; exact hat) rfl); clear hown4 hgrow hat hgl hgrow2)
            all_goals
              go_wp2
              go_ret
              rw [HO.out]
              exact s_close HR.out HB5.out hn₀ H5.out HPB.out HF.out
end Go.Proofs.YtikpkjpnehkbfaaGreatDoor.Rf
