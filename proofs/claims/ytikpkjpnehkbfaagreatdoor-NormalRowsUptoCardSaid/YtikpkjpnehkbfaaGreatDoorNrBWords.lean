/- The pieces of a file between its line feeds: strings.SplitSeq. -/
import Derived.Test.YtikpkjpnehkbfaaGreatDoorNrRangeZ
import Derived.Test.YtikpkjpnehkbfaaGreatDoorNrBClass
import Derived.Lib.FieldsP
import Derived.Lib.MapLaws
import Derived.Lib.TrimUEq
import Derived.Test.YtikpkjpnehkbfaaGreatDoorNrBDecomp
import Derived.Test.YtikpkjpnehkbfaaGreatDoorNrBPoints
set_option linter.unusedSimpArgs false
namespace Go.Proofs.YtikpkjpnehkbfaaGreatDoor.Pr
open Go Go.RowKit Go.Shelf Go.Proofs.YtikpkjpnehkbfaaGreatDoor.Sp Go.Proofs.YtikpkjpnehkbfaaGreatDoor.Rz
attribute [local go_sem] Oper.semAt_some
def ba (l : Bytes) : ByteArray := ⟨l.toArray⟩
theorem ba_data (l : Bytes) : (ba l).data.toList = l := rfl
theorem ba_of (s : ByteArray) : ba s.data.toList = s := by cases s; simp [ba]
def piecesB (s : ByteArray) : List ByteArray := (pieces 10 s.data.toList).map ba
theorem pieces_index : ∀ l : Bytes, (Lib.indexByte l 10 = -1 ∧ pieces 10 l = [l]) ∨ ∃ a b, Lib.indexByte l 10 = (a.length : Int) ∧ l = a ++ 10 :: b ∧ pieces 10 l = a :: pieces 10 b
  | [] => .inl ⟨rfl, rfl⟩
  | c :: l => by
    by_cases h : c = 10
    · subst h
      exact .inr ⟨[], l, by simp [Lib.indexByte], rfl, by simp [pieces]⟩
    · have e1 : Lib.indexByte (c :: l) 10 = if Lib.indexByte l 10 == -1 then -1 else Lib.indexByte l 10 + 1 := by
        rw [Lib.indexByte, if_neg (by simpa using h)]
      rcases pieces_index l with ⟨h1, h2⟩ | ⟨a, b, h1, h2, h3⟩
      · refine .inl ⟨by rw [e1, h1]; rfl, ?_⟩
        unfold pieces
        rw [if_neg h, h2]
      · refine .inr ⟨c :: a, b, ?_, by rw [h2]; rfl, ?_⟩
        · rw [e1, h1, if_neg (by simp only [beq_iff_eq]; omega)]
          simp
        · conv => lhs; unfold pieces
          rw [if_neg h, h3]
theorem extract_ba {r : ByteArray} {a b : Bytes} {c : UInt8} (h : r.data.toList = a ++ c :: b) : r.extract 0 a.length = ba a ∧ r.extract (a.length + 1) r.size = ba b := by
  have hs : r.size = a.length + 1 + b.length := by rw [Lib.size_eq, h]; simp; omega
  constructor
  · rw [← ba_of (r.extract 0 a.length), Lib.extract_data, h]
    simp
  · rw [← ba_of (r.extract (a.length + 1) r.size), Lib.extract_data, h, hs]
    simp [List.drop_append]
    rw [List.drop_eq_nil_of_le (by omega)]
    simp
theorem pieces_pos (c : UInt8) : ∀ l : Bytes, 1 ≤ (pieces c l).length
  | [] => by simp [pieces]
  | b :: l => by
    unfold pieces
    split
    · simp
    · split <;> simp
def Keep3 (Zs Zp Zv : Nat) (A B : World) : Prop := B.heap[Zs]? = A.heap[Zs]? ∧ B.heap[Zp]? = A.heap[Zp]? ∧ B.heap[Zv]? = A.heap[Zv]?
theorem Keep3.trans {Zs Zp Zv : Nat} {A B C : World} (h : Keep3 Zs Zp Zv A B) (h' : Keep3 Zs Zp Zv B C) : Keep3 Zs Zp Zv A C := ⟨h'.1.trans h.1, h'.2.1.trans h.2.1, h'.2.2.trans h.2.2⟩
theorem Keep3.turn {Zs Zp Zv : Nat} (W : World) (l : Nat) (o' : Obj) (h1 : Zs < l) (h2 : Zp < l) (h3 : Zv < l) : Keep3 Zs Zp Zv W (W.putObj l o') :=
  ⟨World.putObj_heap_other (by omega), World.putObj_heap_other (by omega), World.putObj_heap_other (by omega)⟩
set_option maxRecDepth 100000 in
set_option maxHeartbeats 2000000 in
theorem split1_in (n : Nat) (hn : 1 ≤ n) (l Zs Zp Zv : Nat) (s0 : ByteArray) (hs0 : s0.size ≤ 1048576) (J Jx : List ByteArray → World → Prop) (hJ : StandsZ Zs 9 J) (hne : Zp ≠ Zs ∧ Zv ≠ Zs)
    (hY : ∀ pre x W1, J pre W1 → pre.length < (piecesB s0).length → x.size ≤ s0.size → YieldAt .wide (n - 1) Tryz.prog l #[.string x] W1 fun e W' =>
      (e = .returned (.bool true) ∧ J (pre ++ [x]) W' ∧ Keep3 Zs Zp Zv W1 W') ∨ (e = .returned (.bool false) ∧ Jx (pre ++ [x]) W'))
    (W : World) (hZs : Boxed W Zs 9 (.string s0)) (hZp : Boxed W Zp 9 (.string ⟨#[10]⟩)) (hZv : Boxed W Zv 3 (.int .i64 0)) (h0 : J [] W) :
    CallsIn .wide n Tryz.prog 146 #[.func (.yield l) #[] #[], .pointer (some ⟨Zp, 0, none⟩), .pointer (some ⟨Zs, 0, none⟩), .pointer (some ⟨Zv, 0, none⟩)] W fun e W' => (∃ v, e = .returned v) ∧
      ((∃ ys, ys = piecesB s0 ∧ J ys W') ∨ (∃ pre, (∃ k, k ≤ (piecesB s0).length ∧ pre = (piecesB s0).take k) ∧ Jx pre W')) := by
  refine callsIn_of_wp Tryz.func146 rfl trivial ?_ rfl
  simp only [Tryz.ntmps146, List.size_toArray, List.length_cons, List.length_nil, Nat.reduceAdd, Nat.reduceSub, Array.replicate_succ, Array.replicate_zero, List.push_toArray, List.append_toArray, List.nil_append, List.cons_append]
  have hcp := hZp.cell
  gi_wp2
  gi_loopw [7] (fun _ wr => ∃ (k : Nat) (r : ByteArray), k < (piecesB s0).length ∧ r.size ≤ s0.size ∧ Boxed wr Zs 9 (.string r) ∧ Boxed wr Zp 9 (.string ⟨#[10]⟩) ∧ Boxed wr Zv 3 (.int .i64 0) ∧ J ((piecesB s0).take k) wr ∧ Hid (piecesB r = (piecesB s0).drop k))
    (fun _ wr => match wr.cell? ⟨Zs, 0, none⟩ with | some (.string r) => r.size | _ => 0)
  case atStart => exact ⟨0, s0, by unfold piecesB; rw [List.length_map]; exact pieces_pos 10 _, Nat.le_refl _, hZs, hZp, hZv, h0, Lib.hid rfl⟩
  case round =>
    obtain ⟨k, r, hk, hrs, bs, bp, bv, hJs, hP⟩ := hrel
    have cs := bs.cell
    have cp := bp.cell
    have cv := bv.cell
    have fs := bs.frozen
    have hix := Lib.hid (fun W => callsIn_wide (n := n - 1) |>.2 (Tryz.strings_Index_one r 10 W))
    rcases pieces_index r.data.toList with ⟨h1, h2⟩ | ⟨a, b, h1, h2, h3⟩
    · rw [h1] at hix
      have hpr : piecesB r = [r] := by unfold piecesB; rw [h2]; simp [ba_of]
      have hlen : (piecesB s0).length = k + 1 := by
        have := congrArg List.length (hpr.symm.trans hP.out)
        simp at this
        omega
      have hall : (piecesB s0).take k ++ [r] = piecesB s0 := by
        rw [← hpr, hP.out, List.take_append_drop]
      obtain ⟨fn, tmps, assign, body, hy, hR⟩ := hY _ r wr hJs (by rw [List.length_take]; omega) hrs
      rw [hall] at hR
      have HL := Lib.hid hlen
      clear h1 h2 hpr hall hlen
      gi_wp2_with (refine ⟨trivial, ?_⟩; gi_at_call 106; refine (hix.out _).mono ?_; rintro e w' ⟨rfl, hw⟩; subst w')
      refine hR.mono ?_
      rintro e W3 (⟨rfl, hJ3, hk3⟩ | ⟨rfl, hJx3⟩)
      · gi_wp2
        go_end0
        exact ⟨⟨_, rfl⟩, .inl ⟨_, rfl, hJ3⟩⟩
      · gi_wp2
        go_end0
        exact ⟨⟨_, rfl⟩, .inr ⟨_, ⟨(piecesB s0).length, Nat.le_refl _, (List.take_length).symm⟩, hJx3⟩⟩
    · obtain ⟨na, hna⟩ : ∃ na, na = a.length := ⟨_, rfl⟩
      have hex := extract_ba h2
      have hpr : piecesB r = ba a :: piecesB (ba b) := by unfold piecesB; rw [h3]; simp [ba_data]
      have hal : a.length + 1 + b.length = r.size := by rw [Lib.size_eq, h2]; simp; omega
      rw [h1] at hix
      rw [← hna] at hix hex hal
      have HE := Lib.hid hex
      have HPR := Lib.hid hpr
      have HAL := Lib.hid hal
      have i1 : na + 1 ≤ r.size := by omega
      have i2 : decide ((na : Int) < 0) = false := decide_eq_false (by omega)
      obtain ⟨fn, tmps, assign, body, hy, hR⟩ := hY _ (r.extract 0 na) wr hJs (by rw [List.length_take]; omega) (by rw [hex.1]; show a.length ≤ _; omega)
      clear h1 h2 h3 hpr hex hal hna
      gi_wp2_with (refine ⟨trivial, ?_⟩; gi_at_call 106; refine (hix.out _).mono ?_; rintro e w' ⟨rfl, hw⟩; subst w')
      refine hR.mono ?_
      rintro e W3 (⟨rfl, hJ3, hk3⟩ | ⟨rfl, hJx3⟩)
      · have bs3 : Boxed W3 Zs 9 (.string r) := hk3.1.trans bs
        have bp3 : Boxed W3 Zp 9 (.string ⟨#[10]⟩) := hk3.2.1.trans bp
        have bv3 : Boxed W3 Zv 3 (.int .i64 0) := hk3.2.2.trans bv
        have cs3 := bs3.cell
        have cp3 := bp3.cell
        have fs3 := bs3.frozen
        gi_wp2
        refine ⟨⟨k + 1, ba b, ?_, ?_, ?_, ?_, ?_, ?_, ?_⟩, ?_⟩
        · have h5 := congrArg List.length (HPR.out.symm.trans hP.out)
          have h6 : 1 ≤ (piecesB (ba b)).length := by unfold piecesB; rw [List.length_map]; exact pieces_pos 10 _
          simp only [List.length_cons, List.length_drop] at h5
          omega
        · have := HAL.out
          show b.length ≤ _
          omega
        · rw [HE.out.2]; exact bs3.set _
        · exact bp3.other hne.1 _
        · exact bv3.other hne.2 _
        · have e : (piecesB s0).take (k + 1) = (piecesB s0).take k ++ [r.extract 0 na] := by
            rw [HE.out.1, List.take_add_one]
            have : (piecesB s0)[k]? = some (ba a) := by
              have h4 := congrArg (fun l : List ByteArray => l[0]?) (HPR.out.symm.trans hP.out)
              simp only [List.getElem?_cons_zero, List.getElem?_drop, Nat.add_zero] at h4
              exact h4.symm
            rw [this]
            rfl
          rw [e]
          exact hJ _ _ _ (some Zs) hJ3 (grownBy_setCell' W3 Zs _) (fun r e => by injection e with e; exact e.symm) (fun v hv => ⟨_, hv.set _⟩)
        · refine Lib.hid ?_
          have h7 := congrArg List.tail (HPR.out.symm.trans hP.out)
          rw [List.tail_cons, List.tail_drop] at h7
          exact h7
        · rw [cs, (bs3.set (.string (r.extract (na + 1) r.size))).cell, HE.out.2]
          have := HAL.out
          show b.length < _
          simp only
          omega
      · have HT : Hid ((piecesB s0).take k ++ [r.extract 0 na] = (piecesB s0).take (k + 1)) := Lib.hid (by
          rw [HE.out.1, List.take_add_one]
          have : (piecesB s0)[k]? = some (ba a) := by
            have h4 := congrArg (fun l : List ByteArray => l[0]?) (HPR.out.symm.trans hP.out)
            simp only [List.getElem?_cons_zero, List.getElem?_drop, Nat.add_zero] at h4
            exact h4.symm
          rw [this]
          rfl)
        gi_wp2
        refine bodyPost_ret (results_none rfl _ _ _) rfl ?_
        exact ⟨⟨_, rfl⟩, .inr ⟨_, ⟨k + 1, by omega, rfl⟩, by rw [← HT.out]; exact hJx3⟩⟩
theorem split_stops (n : Nat) (hn : 1 ≤ n) (Zs Zp Zv : Nat) (s0 : ByteArray) (hs0 : s0.size ≤ 1048576) (w : World) (hne : Zp ≠ Zs ∧ Zv ≠ Zs) (hZs : Boxed w Zs 9 (.string s0)) (hZp : Boxed w Zp 9 (.string ⟨#[10]⟩)) (hZv : Boxed w Zv 3 (.int .i64 0)) :
    SeqZ .wide n Tryz.prog 146 #[.pointer (some ⟨Zp, 0, none⟩), .pointer (some ⟨Zs, 0, none⟩), .pointer (some ⟨Zv, 0, none⟩)] (fun x : ByteArray => #[Value.string x]) (Keep3 Zs Zp Zv) (fun ys => ys = piecesB s0) (fun pre => ∃ k, k ≤ (piecesB s0).length ∧ pre = (piecesB s0).take k) (fun x => x.size ≤ s0.size) (piecesB s0).length Zs 9 w := fun l J Jx W hW hJ _ hY h0 => by
  have keep : ∀ {Z : Nat} {t : TypeId} {v : Value}, Boxed w Z t v → Boxed W Z t v := fun hx => (hW.block _ hx.lt).trans hx
  exact split1_in n hn l Zs Zp Zv s0 hs0 J Jx hJ hne hY W (keep hZs) (keep hZp) (keep hZv) h0
theorem splitSeq_calls (s : ByteArray) (w : World) : Calls Tryz.prog 68 #[.string s, .string ⟨#[10]⟩] w fun e w' =>
    e = .returned (.func (.func 146) #[] #[.pointer (some ⟨w.heap.size + 1, 0, none⟩), .pointer (some ⟨w.heap.size, 0, none⟩), .pointer (some ⟨w.heap.size + 1 + 1, 0, none⟩)]) ∧ w' = ((w.alloc (.cells #[.string s] 9)).alloc (.cells #[.string ⟨#[10]⟩] 9)).alloc (.cells #[.int .i64 0] 3) := by
  have inner : ∀ W : World, Calls Tryz.prog 112 #[.string s, .string ⟨#[10]⟩, .int .i64 0] W fun e w' =>
      e = .returned (.func (.func 146) #[] #[.pointer (some ⟨W.heap.size + 1, 0, none⟩), .pointer (some ⟨W.heap.size, 0, none⟩), .pointer (some ⟨W.heap.size + 1 + 1, 0, none⟩)]) ∧ w' = ((W.alloc (.cells #[.string s] 9)).alloc (.cells #[.string ⟨#[10]⟩] 9)).alloc (.cells #[.int .i64 0] 3) := by
    intro W
    go_enter Tryz.func112, Tryz.ntmps112
    go_wp2
    go_ret
    exact ⟨rfl, rfl⟩
  have HI := Lib.hid inner
  clear inner
  go_enter Tryz.func68, Tryz.ntmps68
  go_wp2_with (go_at_call 112; refine (HI.out _).mono ?_; rintro e w' ⟨rfl, rfl⟩)
  go_ret
  exact ⟨rfl, rfl⟩
end Go.Proofs.YtikpkjpnehkbfaaGreatDoor.Pr
namespace Go.Proofs.YtikpkjpnehkbfaaGreatDoor.Pr
open Go Go.RowKit Go.Shelf Go.Proofs.YtikpkjpnehkbfaaGreatDoor.Sp
def blankR (n : Nat) : Bool := n == 32 || n == 9
theorem blank_nat (c : UInt8) : isBlank c = blankR c.toNat := by
  unfold isBlank blankR
  rw [Bool.eq_iff_iff]
  simp only [Bool.or_eq_true, beq_iff_eq]
  constructor
  · rintro (rfl | rfl)
    · left; rfl
    · right; rfl
  · rintro (h | h)
    · left; exact UInt8.toNat_inj.1 h
    · right; exact UInt8.toNat_inj.1 h
theorem blank_high {n : Nat} (h : 128 ≤ n) : blankR n = false := by
  unfold blankR
  simp
  omega
theorem wordsGo_over : ∀ (u l w : Bytes), (∀ c ∈ u, isBlank c = false) → wordsGo (u ++ l) w = wordsGo l (w ++ u)
  | [], l, w, _ => by simp
  | c :: u, l, w, h => by
    have hc := h c (by simp)
    simp only [List.cons_append, wordsGo, hc, Bool.false_eq_true, if_false]
    rw [wordsGo_over u l (w ++ [c]) (fun d hd => h d (by simp [hd]))]
    simp
theorem rune_blank {l : Bytes} (hne : l ≠ []) : (blankR (Lib.decodeL l).1 = true → ∃ c t, l = c :: t ∧ isBlank c = true ∧ (Lib.decodeL l).2 = 1) ∧
    (blankR (Lib.decodeL l).1 = false → (Lib.decodeL l).2 ≤ l.length ∧ ∀ c ∈ l.take (Lib.decodeL l).2, isBlank c = false) := by
  obtain ⟨c, t, rfl⟩ : ∃ c t, l = c :: t := by
    cases l with
    | nil => exact absurd rfl hne
    | cons c t => exact ⟨c, t, rfl⟩
  have hd := Lib.decodeL_N (c :: t)
  simp only [List.getD_cons_zero] at hd
  have e1 : (c :: t).getD 1 0 = t.getD 0 0 := rfl
  have e2 : (c :: t).getD 2 0 = t.getD 1 0 := rfl
  have e3 : (c :: t).getD 3 0 = t.getD 2 0 := rfl
  rw [e1, e2, e3] at hd
  rcases Lib.decodeN_shape (c :: t).length c.toNat (t.getD 0 0).toNat (t.getD 1 0).toNat (t.getD 2 0).toNat with ⟨h0, hs⟩ | ⟨h0, h1, h2, h3, hs⟩ | ⟨h0, h1, h2, h3, h4, _, hs⟩ | ⟨h0, h1, h2, h3, h4, h5, _, hs⟩ | hs
  · rw [hs] at hd
    rw [hd, ← blank_nat]
    refine ⟨fun h => ⟨c, t, rfl, h, rfl⟩, fun h => ⟨by simp, fun d hd => ?_⟩⟩
    simp at hd
    subst hd
    exact h
  · rw [hs] at hd
    rw [hd]
    refine ⟨fun h => by rw [blank_high h3] at h; exact Bool.noConfusion h, fun _ => ⟨by simp at h1 ⊢; omega, fun d hd => ?_⟩⟩
    cases t with
    | nil => simp at h1
    | cons c1 t =>
      simp only [List.getD_cons_zero] at h2
      simp at hd
      rw [blank_nat]
      apply blank_high
      rcases hd with rfl | rfl <;> omega
  · rw [hs] at hd
    rw [hd]
    refine ⟨fun h => by rw [blank_high (by omega)] at h; exact Bool.noConfusion h, fun _ => ⟨by simp at h1 ⊢; omega, fun d hd => ?_⟩⟩
    clear hs e1 e2 e3 hne
    rcases t with _ | ⟨c1, _ | ⟨c2, t⟩⟩
    · simp at h1
    · simp at h1
    · simp only [List.getD_cons_zero, List.getD_cons_succ] at h2 h3
      simp at hd
      rw [blank_nat]
      apply blank_high
      rcases hd with rfl | rfl | rfl <;> omega
  · rw [hs] at hd
    rw [hd]
    refine ⟨fun h => by rw [blank_high (by omega)] at h; exact Bool.noConfusion h, fun _ => ⟨by simp at h1 ⊢; omega, fun d hd => ?_⟩⟩
    clear hs e1 e2 e3 hne
    rcases t with _ | ⟨c1, _ | ⟨c2, _ | ⟨c3, t⟩⟩⟩
    · simp at h1
    · simp at h1
    · simp at h1
    · simp only [List.getD_cons_zero, List.getD_cons_succ] at h2 h3 h4
      simp at hd
      rw [blank_nat]
      apply blank_high
      rcases hd with rfl | rfl | rfl | rfl <;> omega
  · rw [hs] at hd
    rw [hd]
    by_cases h0 : c.toNat < 128
    · have := Lib.decodeN_ascii (c :: t).length c.toNat (t.getD 0 0).toNat (t.getD 1 0).toNat (t.getD 2 0).toNat h0
      rw [this] at hs
      injection hs with hs1 hs2
      omega
    · refine ⟨fun h => by rw [blank_high (by omega)] at h; exact Bool.noConfusion h, fun _ => ⟨by simp, fun d hd => ?_⟩⟩
      simp at hd
      subst hd
      rw [blank_nat]
      exact blank_high (by omega)
theorem words_spans (s : ByteArray) : ∀ (f pos : Nat) (st : Option Nat) (acc : List (Nat × Nat)), s.size ≤ pos + f → pos ≤ s.size → (∀ a, st = some a → a < pos) →
    acc.map (fun p => Lib.pieceU s.data.toList p.1 p.2) ++ wordsGo (s.data.toList.drop pos) (Lib.openPiece s.data.toList st pos) = (Lib.closeSpans s (Lib.spansFromP blankR s f pos st acc)).map (fun p => Lib.pieceU s.data.toList p.1 p.2) := by
  have fin : ∀ (st : Option Nat) (acc : List (Nat × Nat)), (∀ a, st = some a → a < s.size) → acc.map (fun p => Lib.pieceU s.data.toList p.1 p.2) ++ wordsGo (s.data.toList.drop s.size) (Lib.openPiece s.data.toList st s.size) = (Lib.closeSpans s (acc, st)).map (fun p => Lib.pieceU s.data.toList p.1 p.2) := by
    intro st acc hst
    have hd : s.data.toList.drop s.size = [] := List.drop_eq_nil_of_le (by rw [← Lib.size_eq]; exact Nat.le_refl _)
    rw [hd]
    cases st with
    | none => simp [Lib.closeSpans, Lib.openPiece, wordsGo]
    | some a =>
      have := Lib.pieceU_ne s.data.toList a s.size (hst a rfl) (by rw [← Lib.size_eq]; exact Nat.le_refl _)
      simp [Lib.closeSpans, Lib.openPiece, wordsGo, this]
  intro f
  induction f with
  | zero =>
    intro pos st acc h hp hst
    obtain rfl : pos = s.size := by omega
    exact fin st acc hst
  | succ f ih =>
    intro pos st acc h hp hst
    by_cases hlt : pos < s.size
    · have hne : s.data.toList.drop pos ≠ [] := by
        intro h0
        have := congrArg List.length h0
        rw [List.length_drop, ← Lib.size_eq] at this
        simp at this
        omega
      obtain ⟨hb1, hb2⟩ := rune_blank hne
      rw [Lib.decodeL_drop] at hb1 hb2
      simp only [Lib.spansFromP, if_pos hlt]
      cases hsp : blankR (Utf8.decode s pos).1 with
      | true =>
        obtain ⟨c, t, hct, hbc, hw⟩ := hb1 hsp
        have ht : t = s.data.toList.drop (pos + 1) := by rw [← List.drop_drop, hct]; rfl
        rw [hw, hct]
        simp only [if_true, wordsGo, hbc]
        cases st with
        | none =>
          have := ih (pos + 1) none acc (by omega) (by omega) (fun a h => by cases h)
          rw [← ht] at this
          simpa [Lib.openPiece] using this
        | some a =>
          have hpn := Lib.pieceU_ne s.data.toList a pos (hst a rfl) (by rw [← Lib.size_eq]; omega)
          have := ih (pos + 1) none (acc ++ [(a, pos)]) (by omega) (by omega) (fun a h => by cases h)
          rw [← ht] at this
          simpa [Lib.openPiece, hpn] using this
      | false =>
        obtain ⟨hle, hall⟩ := hb2 hsp
        rw [List.length_drop, ← Lib.size_eq] at hle
        have hw := Lib.width_pos s pos
        have hsplit : s.data.toList.drop pos = (s.data.toList.drop pos).take (Utf8.decode s pos).2 ++ s.data.toList.drop (pos + (Utf8.decode s pos).2) := by
          rw [← List.drop_drop, List.take_append_drop]
        rw [hsplit, wordsGo_over _ _ _ hall]
        simp only [Bool.false_eq_true, if_false]
        cases st with
        | none =>
          have := ih (pos + (Utf8.decode s pos).2) (some pos) acc (by omega) (by omega) (fun a h => by cases h; omega)
          have e : ([] : List UInt8) ++ (s.data.toList.drop pos).take (Utf8.decode s pos).2 = Lib.pieceU s.data.toList pos (pos + (Utf8.decode s pos).2) := by
            unfold Lib.pieceU
            rw [List.nil_append, Nat.add_sub_cancel_left]
          simp only [Lib.openPiece] at this ⊢
          rw [e]
          exact this
        | some a =>
          have := ih (pos + (Utf8.decode s pos).2) (some a) acc (by omega) (by omega) (fun b h => by cases h; have := hst a rfl; omega)
          simp only [Lib.openPiece] at this ⊢
          rw [Lib.pieceU_grow _ _ _ _ (Nat.le_of_lt (hst a rfl))]
          exact this
    · obtain rfl : pos = s.size := by omega
      rw [Lib.spansFromP_end blankR s _ _ _ _ hlt]
      exact fin st acc hst
theorem words_eq (s : ByteArray) : (Lib.goFieldsP blankR s).map (·.data.toList) = wordsGo s.data.toList [] := by
  have h := words_spans s s.size 0 none [] (by omega) (Nat.zero_le _) (fun a h => by cases h)
  simp only [List.map_nil, List.nil_append, Lib.openPiece, List.drop_zero] at h
  rw [h]
  unfold Lib.goFieldsP Lib.spansOfP
  rw [List.map_map]
  congr 1
  funext p
  simp [Lib.pieceU]
theorem wl_words (s : ByteArray) : wl (Lib.goFieldsP blankR s) = wordsGo s.data.toList [] := words_eq s
theorem wordsGo_size : ∀ (l w : Bytes) (x : Bytes), x ∈ wordsGo l w → x ≠ [] ∧ x.length ≤ w.length + l.length
  | [], w, x, h => by
    unfold wordsGo at h
    split at h
    · cases h
    · simp at h
      subst h
      exact ⟨by assumption, by simp⟩
  | c :: l, w, x, h => by
    unfold wordsGo at h
    split at h
    · split at h
      · have := wordsGo_size l [] x h
        refine ⟨this.1, ?_⟩
        have := this.2
        simp at this ⊢
        omega
      · rcases List.mem_cons.1 h with rfl | h
        · exact ⟨by assumption, by simp⟩
        · have := wordsGo_size l [] x h
          refine ⟨this.1, ?_⟩
          have := this.2
          simp at this ⊢
          omega
    · have := wordsGo_size l (w ++ [c]) x h
      refine ⟨this.1, ?_⟩
      have := this.2
      simp at this ⊢
      omega
set_option maxHeartbeats 2000000 in
theorem blank_fn (W : World) (x : Nat) : Calls Tryz.prog 72 #[.int .i32 (x : Int)] W fun e w' => e = .returned (.bool (blankR x)) ∧ w' = W := by
  have hb : (blankR x = (((x : Int) == 32) || ((x : Int) == 9))) := by
    unfold blankR
    rw [Bool.eq_iff_iff]
    simp only [Bool.or_eq_true, beq_iff_eq]
    omega
  rw [hb]
  by_cases h1 : (x : Int) = 32
  · have e1 : ((x : Int) == 32) = true := beq_iff_eq.2 h1
    rw [e1]
    generalize (x : Int) = y at *
    go_enter Tryz.func72, Tryz.ntmps72
    go_wp2
    go_ret
    exact ⟨rfl, rfl⟩
  · have e1 : ((x : Int) == 32) = false := beq_eq_false_iff_ne.2 h1
    rw [e1]
    generalize (x : Int) = y at *
    go_enter Tryz.func72, Tryz.ntmps72
    go_wp2
    go_ret
    exact ⟨by simp, rfl⟩
theorem words_calls (s : ByteArray) (hs : s.size ≤ 1048576) (w : World) :
    Calls Tryz.prog 71 #[.string s, .func (.func 72) #[] #[]] w fun e w' => ∃ v, e = .returned v ∧ WordsAt w'.heap.size w' v (Lib.goFieldsP blankR s) ∧ Below w.heap.size w w' := by
  refine (Tryz.strings_FieldsFunc 72 #[] (fun args w => by kernel_rfl) blankR s w (by omega) (fun W x _ => (blank_fn W x).mono fun e w' ⟨h1, h2⟩ => ⟨h1, 0, h2⟩)).mono ?_
  rintro e w' ⟨A, rfl, hA, hown, hb⟩
  have hlt := (hown.lt A rfl).2
  have hlen := YtikpkjpnehkbfaaGreatDoor.Rowl.own_len hown
  refine ⟨_, rfl, ⟨A, 0, _, rfl, hlt, Nat.le_refl _, hlen, fun i x hi => ?_⟩, hb⟩
  have := hown.cells (g := A) rfl i (.string x) (by rw [List.getElem?_map, hi]; rfl)
  rw [show ((⟨A, 0, none⟩ : Addr).add i) = ⟨A, 0 + i, none⟩ by (unfold Addr.add; split <;> simp_all)] at this
  exact this
end Go.Proofs.YtikpkjpnehkbfaaGreatDoor.Pr
namespace Go.Proofs.YtikpkjpnehkbfaaGreatDoor.Pr
open Go Go.RowKit Go.Shelf Go.Proofs.YtikpkjpnehkbfaaGreatDoor.Sp
theorem trim_cr (l : Bytes) : Lib.trimSuffix l [13] = stripCR l := by
  unfold Lib.trimSuffix Lib.hasSuffix stripCR
  have h : ([13] : Bytes).isSuffixOf l = true ↔ l.getLast? = some 13 := by
    rw [List.isSuffixOf_iff_suffix]
    constructor
    · rintro ⟨t, rfl⟩
      simp
    · intro h
      obtain ⟨ys, rfl⟩ := List.getLast?_eq_some_iff.1 h
      exact ⟨ys, rfl⟩
  by_cases hl : l.getLast? = some 13
  · rw [if_pos hl, if_pos (h.2 hl), List.dropLast_eq_take]
    rfl
  · rw [if_neg hl, if_neg (fun x => hl (h.1 x))]
theorem index_hash : ∀ l : Bytes, (Lib.index l [35] = -1 ∧ beforeHash l = l) ∨ ∃ k : Nat, Lib.index l [35] = k ∧ l.take k = beforeHash l
  | [] => .inl ⟨rfl, rfl⟩
  | c :: l => by
    have e : ([35] : Bytes).isPrefixOf (c :: l) = (35 == c) := by simp [List.isPrefixOf]
    unfold Lib.index
    rw [e]
    by_cases h : c = 35
    · subst h
      exact .inr ⟨0, by simp, by simp [beforeHash]⟩
    · have h1 : ((35 : UInt8) == c) = false := beq_eq_false_iff_ne.2 (fun e => h e.symm)
      have h2 : beforeHash (c :: l) = c :: beforeHash l := by simp [beforeHash, h]
      rw [h1, h2]
      rcases index_hash l with ⟨i1, i2⟩ | ⟨k, i1, i2⟩
      · exact .inl ⟨by rw [i1]; rfl, by rw [i2]⟩
      · refine .inr ⟨k + 1, ?_, by rw [List.take_succ_cons, i2]⟩
        have : ((k : Int) == -1) = false := beq_eq_false_iff_ne.2 (by omega)
        rw [i1, this]
        simp
theorem cut_hash (l : Bytes) : (Lib.cut l [35]).1 = beforeHash l := by
  unfold Lib.cut
  rcases index_hash l with ⟨h1, h2⟩ | ⟨k, h1, h2⟩
  · rw [h1, if_neg (by omega), h2]
  · rw [h1, if_pos (by omega)]
    simpa using h2
def lineB (s : ByteArray) : ByteArray := ba (beforeHash (stripCR s.data.toList))
theorem words_line (s : ByteArray) : wl (Lib.goFieldsP blankR (lineB s)) = wordsOf s.data.toList := by
  rw [wl_words]
  rfl
theorem stripCR_len (l : Bytes) : (stripCR l).length ≤ l.length := by
  unfold stripCR
  split <;> simp
theorem lineB_size (s : ByteArray) : (lineB s).size ≤ s.size := by
  rw [Lib.size_eq, Lib.size_eq]
  show (beforeHash (stripCR s.data.toList)).length ≤ _
  refine Nat.le_trans ?_ (stripCR_len _)
  unfold beforeHash
  exact (List.takeWhile_prefix _).length_le
theorem word_size {s : ByteArray} {x : ByteArray} (h : x ∈ Lib.goFieldsP blankR s) : 0 < x.size ∧ x.size ≤ s.size := by
  have h1 : x.data.toList ∈ wordsGo s.data.toList [] := by rw [← words_eq]; exact List.mem_map.2 ⟨x, h, rfl⟩
  have h2 := wordsGo_size _ _ _ h1
  rw [Lib.size_eq, Lib.size_eq]
  have h3 := List.length_pos_iff.2 h2.1
  have h4 := h2.2
  simp only [List.length_nil, Nat.zero_add] at h4
  exact ⟨h3, h4⟩
theorem lines_count (l : Bytes) : Lib.countByte l 10 = (l.filter (· == 10)).length := by
  unfold Lib.countByte
  rw [List.count_eq_countP, List.countP_eq_length_filter]
def TrimCr (s : ByteArray) : Prop := ∀ W : World, Calls Tryz.prog 70 #[.string s, .string ⟨#[13]⟩] W fun e w' => e = .returned (.string (ba (stripCR s.data.toList))) ∧ w' = W
theorem trimCr {s : ByteArray} (hs : s.size ≤ 1048576) : TrimCr s := fun W => by
  have h := Tryz.strings_TrimSuffix s ⟨#[13]⟩ W (by omega)
  have e : Lib.trimSuffix s.data.toList (⟨#[13]⟩ : ByteArray).data.toList = stripCR s.data.toList := trim_cr _
  rw [e] at h
  exact h
def HashAt (s : ByteArray) : Prop := ∀ (W : World) (m : Int), W.cell? ⟨1, 0, none⟩ = some (.int .i64 m) → Calls Tryz.prog 69 #[.string (ba (stripCR s.data.toList)), .string ⟨#[35]⟩] W fun e w' => (∃ y z, e = .returned (.tuple #[.string (lineB s), y, z])) ∧ Below W.heap.size W w'
theorem drewN_below (W : World) (n : Nat) : Below W.heap.size W (W.drewN n) := ⟨rfl, rfl, rfl, Nat.le_refl _, fun _ _ => rfl⟩
theorem hashAt {s : ByteArray} (hs : s.size ≤ 1048576) : HashAt s := fun W m hm => by
  have h1 : (ba (stripCR s.data.toList)).size ≤ 1048576 := by
    rw [Lib.size_eq, ba_data]
    have := stripCR_len s.data.toList
    rw [Lib.size_eq] at hs
    omega
  have h := Tryz.strings_Cut (ba (stripCR s.data.toList)) ⟨#[35]⟩ m W (by omega) hm
  refine h.mono ?_
  rintro e w' ⟨rfl, n, rfl⟩
  have e1 : (Lib.cut (ba (stripCR s.data.toList)).data.toList (⟨#[35]⟩ : ByteArray).data.toList).1 = beforeHash (stripCR s.data.toList) := cut_hash _
  refine ⟨⟨_, _, by rw [e1]; rfl⟩, drewN_below W n⟩
end Go.Proofs.YtikpkjpnehkbfaaGreatDoor.Pr
namespace Go.Proofs.YtikpkjpnehkbfaaGreatDoor.Pr
open Go Go.RowKit Go.Shelf Go.Proofs.YtikpkjpnehkbfaaGreatDoor.Sp Go.Proofs.YtikpkjpnehkbfaaGreatDoor.Mapl Go.Proofs.YtikpkjpnehkbfaaGreatDoor.Rowl
def laidWorld (w : World) : World :=
  ((((((((w.alloc (.cells #[.pointer none] 23)).alloc (.cells #[.nilIface] 43)).alloc (.map #[] 0)).alloc (.map #[] 0)).alloc (.map #[] 0)).alloc
    (.cells #[.slice none 0 0, .slice none 0 0, .map (some (w.heap.size + 1 + 1)), .map (some (w.heap.size + 1 + 1 + 1)), .map (some (w.heap.size + 1 + 1 + 1 + 1))] 93)).alloc (.map #[] 0)).alloc
    (.cells #[.pointer (some ⟨w.heap.size + 1 + 1 + 1 + 1 + 1, 0, none⟩), .map (some (w.heap.size + 1 + 1 + 1 + 1 + 1 + 1)), .int .i64 0] 96)).alloc
    (.cells #[.pointer (some ⟨w.heap.size + 1 + 1 + 1 + 1 + 1 + 1 + 1, 0, none⟩)] 88)
def blocksAt (n : Nat) : Blocks := ⟨n + 1 + 1 + 1 + 1 + 1 + 1 + 1, n + 1 + 1 + 1 + 1 + 1, n + 1 + 1 + 1 + 1 + 1 + 1, n + 1 + 1, n + 1 + 1 + 1, n + 1 + 1 + 1 + 1⟩
theorem laid_size (w : World) : (laidWorld w).heap.size = w.heap.size + 9 := by simp [laidWorld]
theorem laid_at (w : World) : (laidWorld w).heap[w.heap.size]? = some (.cells #[.pointer none] 23 (0, 0)) ∧ (laidWorld w).heap[w.heap.size + 1]? = some (.cells #[.nilIface] 43 (0, 0)) ∧ (laidWorld w).heap[w.heap.size + 2]? = some (.map #[] 0) ∧ (laidWorld w).heap[w.heap.size + 3]? = some (.map #[] 0) ∧ (laidWorld w).heap[w.heap.size + 4]? = some (.map #[] 0) ∧
    (laidWorld w).heap[w.heap.size + 5]? = some (.cells #[.slice none 0 0, .slice none 0 0, .map (some (w.heap.size + 2)), .map (some (w.heap.size + 3)), .map (some (w.heap.size + 4))] 93 (0, 0)) ∧ (laidWorld w).heap[w.heap.size + 6]? = some (.map #[] 0) ∧
    (laidWorld w).heap[w.heap.size + 7]? = some (.cells #[.pointer (some ⟨w.heap.size + 5, 0, none⟩), .map (some (w.heap.size + 6)), .int .i64 0] 96 (0, 0)) ∧ (laidWorld w).heap[w.heap.size + 8]? = some (.cells #[.pointer (some ⟨w.heap.size + 7, 0, none⟩)] 88 (0, 0)) := by
  have hp : ∀ (W : World) (o : Obj), (W.alloc o).heap = W.heap.push o := fun _ _ => rfl
  unfold laidWorld
  simp only [hp, Array.getElem?_push, Array.size_push]
  generalize w.heap.size = n
  refine ⟨?_, ?_, ?_, ?_, ?_, ?_, ?_, ?_, ?_⟩
  · rw [if_neg (by omega), if_neg (by omega), if_neg (by omega), if_neg (by omega), if_neg (by omega), if_neg (by omega), if_neg (by omega), if_neg (by omega), if_pos True.intro]
  all_goals simp
theorem laid_below (w : World) : Below w.heap.size w (laidWorld w) := by
  unfold laidWorld
  repeat (first | exact Below.refl _ _ | refine Below.alloc ?_ (by simp <;> omega) _)
theorem laid_st (w : World) : StB (blocksAt w.heap.size) (.slice none 0 0) (.slice none 0 0) w.heap.size (laidWorld w) {} 0 := by
  obtain ⟨_, _, h2, h3, h4, h5, h6, h7, _⟩ := laid_at w
  have hnil : (laidWorld w).ownsRow w.heap.size 162 3 (.slice none 0 0) 0 [] := ⟨rfl, .inl ⟨rfl, rfl⟩⟩
  exact {
    hx := h7
    hp := h5
    base := by unfold blocksAt; simp only; omega
    ne := by unfold blocksAt; simp only; omega
    hc := hnil
    hk := hnil
    apart := fun g hg => by simp [Value.ownBlock] at hg
    mf := ⟨#[], 0, h2, rfl, fun i p hi => by simp at hi⟩
    md := ⟨#[], 0, h3, rfl, fun i p hi => by simp at hi⟩
    ml := ⟨#[], 0, h6, rfl, fun i p hi => by simp at hi, rfl, fun i e hi => by simp at hi⟩
    mq := ⟨#[], 0, h4, fun e he => by simp at he, fun x y r hr => by simp [least] at hr, by simp⟩ }
def meanEnt (x i : Nat) (s : ByteArray) (f : Nat) : MapEntry := { key := .string s, val := .func (.func f) #[.pointer (some ⟨x, 0, none⟩)] #[], born := i }
def nClass : ByteArray := ⟨#[99, 108, 97, 115, 115]⟩
def nKind : ByteArray := ⟨#[107, 105, 110, 100]⟩
def nFold : ByteArray := ⟨#[102, 111, 108, 100]⟩
def nDecomp : ByteArray := ⟨#[100, 101, 99, 111, 109, 112]⟩
def meansOf (x : Nat) : Array MapEntry := #[meanEnt x 0 nClass 64, meanEnt x 1 nKind 65, meanEnt x 2 nFold 66, meanEnt x 3 nDecomp 67]
theorem means_put (b x i : Nat) (es : Array MapEntry) (s : ByteArray) (f : Nat) (W : World) (hb : W.heap[b]? = some (.map es i)) (hk : ∀ e ∈ es.toList, ∃ t, e.key = .string t ∧ (s == t) = false) :
    (Instr.mapUpdate 98 (.map (some b)) (.string s) (.func (.func f) #[.pointer (some ⟨x, 0, none⟩)] #[])).run Tryz.prog W = .ok () (setB W b (.map (es.push (meanEnt x i s f)) (i + 1))) :=
  run_update_new W (keyS s) (.string s) _ Tryz.underlying98 hb (check_str W Tryz.underlying9 false) (find_str W Tryz.underlying9 es.toList (fun e he => by obtain ⟨t, h, _⟩ := hk e he; exact ⟨t, h⟩))
    (found_none (fun e he => by obtain ⟨t, h, hne⟩ := hk e he; rw [h]; exact hne))
theorem means_laid (x : Nat) (W : World) : ∃ W1 W2 W3 W4,
    (Instr.mapUpdate 98 (.map (some W.heap.size)) (.string nClass) (.func (.func 64) #[.pointer (some ⟨x, 0, none⟩)] #[])).run Tryz.prog (W.alloc (.map #[] 0)) = .ok () W1 ∧
    (Instr.mapUpdate 98 (.map (some W.heap.size)) (.string nKind) (.func (.func 65) #[.pointer (some ⟨x, 0, none⟩)] #[])).run Tryz.prog W1 = .ok () W2 ∧
    (Instr.mapUpdate 98 (.map (some W.heap.size)) (.string nFold) (.func (.func 66) #[.pointer (some ⟨x, 0, none⟩)] #[])).run Tryz.prog W2 = .ok () W3 ∧
    (Instr.mapUpdate 98 (.map (some W.heap.size)) (.string nDecomp) (.func (.func 67) #[.pointer (some ⟨x, 0, none⟩)] #[])).run Tryz.prog W3 = .ok () W4 ∧
    W4.heap[W.heap.size]? = some (.map (meansOf x) 4) ∧ (W.alloc (.map #[] 0)).grownBy W1 (some W.heap.size) ∧ (W.alloc (.map #[] 0)).grownBy W2 (some W.heap.size) ∧ (W.alloc (.map #[] 0)).grownBy W3 (some W.heap.size) ∧ (W.alloc (.map #[] 0)).grownBy W4 (some W.heap.size) := by
  obtain ⟨b, hb⟩ : ∃ b, W.heap.size = b := ⟨_, rfl⟩
  have h0 : (W.alloc (.map #[] 0)).heap[b]? = some (.map #[] 0) := by rw [← hb]; exact heap_alloc_new W _
  rw [hb]
  generalize W.alloc (.map #[] 0) = W0 at *
  have h1 := setB_same (o' := .map #[meanEnt x 0 nClass 64] 1) h0
  have h2 := setB_same (o' := .map #[meanEnt x 0 nClass 64, meanEnt x 1 nKind 65] 2) h1
  have h3 := setB_same (o' := .map #[meanEnt x 0 nClass 64, meanEnt x 1 nKind 65, meanEnt x 2 nFold 66] 3) h2
  have h4 := setB_same (o' := .map (meansOf x) 4) h3
  refine ⟨_, _, _, _, means_put b x 0 #[] nClass _ W0 h0 (fun e he => by simp at he), means_put b x 1 _ nKind _ _ h1 (fun e he => ?_), means_put b x 2 _ nFold _ _ h2 (fun e he => ?_), means_put b x 3 _ nDecomp _ _ h3 (fun e he => ?_), h4, setB_grown _ _ _, (setB_grown _ _ _).trans (setB_grown _ _ _), ((setB_grown _ _ _).trans (setB_grown _ _ _)).trans (setB_grown _ _ _), (((setB_grown _ _ _).trans (setB_grown _ _ _)).trans (setB_grown _ _ _)).trans (setB_grown _ _ _)⟩
  · simp only [List.mem_singleton] at he
    subst he
    exact ⟨_, rfl, by decide⟩
  · simp only [List.mem_cons, List.not_mem_nil, or_false] at he
    rcases he with rfl | rfl
    · exact ⟨_, rfl, by decide⟩
    · exact ⟨_, rfl, by decide⟩
  · simp only [List.mem_cons, List.not_mem_nil, or_false] at he
    rcases he with rfl | rfl | rfl
    · exact ⟨_, rfl, by decide⟩
    · exact ⟨_, rfl, by decide⟩
    · exact ⟨_, rfl, by decide⟩
def MeansAt (W : World) (b x : Nat) : Prop := W.heap[b]? = some (.map (meansOf x) 4)
def meanFn (s : ByteArray) : Option Nat := if s == nClass then some 64 else if s == nKind then some 65 else if s == nFold then some 66 else if s == nDecomp then some 67 else none
theorem zeroFunc (w : World) : (zeroValue 97).run Tryz.prog w = .ok .nilFunc w := by kernel_rfl
theorem means_look {W : World} {b x : Nat} (h : MeansAt W b x) (s : ByteArray) (W' : World) (e : W'.heap[b]? = W.heap[b]?) :
    (Instr.lookup 98 (.map (some b)) (.string s) true).run Tryz.prog W' = .ok (match meanFn s with | some f => .tuple #[.func (.func f) #[.pointer (some ⟨x, 0, none⟩)] #[], .bool true] | none => .tuple #[.nilFunc, .bool false]) W' := by
  have hs : ∀ e ∈ (meansOf x).toList, ∃ t, e.key = .string t := fun e he => by
    simp only [meansOf, List.mem_cons, List.not_mem_nil, or_false] at he
    rcases he with rfl | rfl | rfl | rfl <;> exact ⟨_, rfl⟩
  have hl := run_lookup (P := Tryz.prog) W' (t := 98) (keyS s) (.string s) Tryz.underlying98 (e.trans h) (fun emp => check_str W' Tryz.underlying9 emp) (find_str W' Tryz.underlying9 (meansOf x).toList hs) _ (zeroFunc W') true
  rw [hl]
  unfold meanFn meansOf
  simp only [found, meanEnt, keyS]
  by_cases h1 : (s == nClass) = true
  · simp only [h1, if_true]
  · by_cases h2 : (s == nKind) = true
    · simp only [h1, h2, if_true, if_false, Bool.false_eq_true]
    · by_cases h3 : (s == nFold) = true
      · simp only [h1, h2, h3, if_true, if_false, Bool.false_eq_true]
      · by_cases h4 : (s == nDecomp) = true
        · simp only [h1, h2, h3, h4, if_true, if_false, Bool.false_eq_true]
        · simp only [h1, h2, h3, h4, if_true, if_false, Bool.false_eq_true]
theorem beq_bytes {s t : ByteArray} : (s == t) = decide (s.data.toList = t.data.toList) := by
  rw [Bool.eq_iff_iff]
  simp only [decide_eq_true_eq]
  constructor
  · intro h
    have : s.data = t.data := by
      cases s; cases t
      exact eq_of_beq (α := Array UInt8) h
    rw [this]
  · intro h
    have : s.data = t.data := Array.toList_inj.1 h
    cases s; cases t
    simp only at this
    subst this
    exact beq_self_eq_true (α := Array UInt8) _
end Go.Proofs.YtikpkjpnehkbfaaGreatDoor.Pr
namespace Go.Proofs.YtikpkjpnehkbfaaGreatDoor.Pr
open Go Go.RowKit Go.Shelf Go.Proofs.YtikpkjpnehkbfaaGreatDoor.Sp Go.Proofs.YtikpkjpnehkbfaaGreatDoor.Mapl Go.Proofs.YtikpkjpnehkbfaaGreatDoor.Rowl Go.Proofs.YtikpkjpnehkbfaaGreatDoor.Rz
theorem doLines_app : ∀ (ls ms : List Bytes) (st : St) (k : Int), doLines st (ls ++ ms) k = match doLines st ls k with | .error e => .error e | .ok st' => doLines st' ms (k + ls.length)
  | [], ms, st, k => by simp [doLines]
  | l :: ls, ms, st, k => by
    simp only [List.cons_append, doLines]
    cases doLine st (wordsOf l) k with
    | error e => rfl
    | ok st' =>
      simp only
      rw [doLines_app ls ms st' (k + 1)]
      cases doLines st' ls (k + 1) with
      | error e => rfl
      | ok s =>
        simp only [List.length_cons]
        congr 1
        omega
theorem wl_pieces (s : ByteArray) : wl (piecesB s) = pieces 10 s.data.toList := by
  unfold wl piecesB
  rw [List.map_map]
  have : ((fun x : ByteArray => x.data.toList) ∘ ba) = id := rfl
  rw [this, List.map_id]
theorem wl_snoc (l : List ByteArray) (x : ByteArray) : wl (l ++ [x]) = wl l ++ [x.data.toList] := by simp [wl]
theorem doLines_snoc {pre : List ByteArray} {st : St} (h : doLines {} (wl pre) 1 = .ok st) (x : ByteArray) : doLines {} (wl (pre ++ [x])) 1 = match doLine st (wordsOf x.data.toList) (1 + (pre.length : Int)) with | .error e => .error (e, 1 + (pre.length : Int)) | .ok st' => .ok st' := by
  rw [wl_snoc, doLines_app, h]
  simp only [doLines, wl_length]
  cases doLine st (wordsOf x.data.toList) (1 + (pre.length : Int)) <;> rfl
theorem doLines_stop {pre all : List ByteArray} {e : Int × Int} (h : doLines {} (wl pre) 1 = .error e) (k : Nat) (hk : pre = all.take k) : doLines {} (wl all) 1 = .error e := by
  have : wl all = wl pre ++ wl (all.drop k) := by
    rw [hk]
    unfold wl
    rw [← List.map_append, List.take_append_drop]
  rw [this, doLines_app, h]
theorem StB.line_put {B : Blocks} {cv kv : Value} {n₀ : Nat} {W : World} {st : St} {line : Int} (h : StB B cv kv n₀ W st line) (l' : Int) : StB B cv kv n₀ (W.setCell ⟨B.x, 2, none⟩ (.int .i64 l')) st l' := by
  have hs := setCell_grown W ⟨B.x, 2, none⟩ (.int .i64 l')
  have hnm := h.nm
  have hn : NoPts W (some B.x) := NoPts.cells h.hx (by decide)
  have hcr := h.rows h.hc
  have hkr := h.rows h.hk
  exact {
    hx := by rw [heap_setCell_same W B.x 2 _ _ (.int .i64 l') h.hx]; rfl
    hp := (hs.block _ (lt_of_block h.hp) (by simp only [ne_eq, Option.some.injEq]; exact fun e => hnm.1 e.symm)).trans h.hp
    base := h.base
    ne := h.ne
    hc := h.hc.kept hs (.inr hcr.1)
    hk := h.hk.kept hs (.inr hkr.1)
    apart := h.apart
    mf := h.mf.grown hs hn (by simp only [ne_eq, Option.some.injEq]; exact hnm.2.1.2.1)
    md := h.md.grown hs hn (by simp only [ne_eq, Option.some.injEq]; exact hnm.2.1.2.2.1)
    ml := h.ml.grown hs (by simp only [ne_eq, Option.some.injEq]; exact hnm.2.1.1)
    mq := h.mq.grown hs (by simp only [ne_eq, Option.some.injEq]; exact hnm.2.1.2.2.2) }
structure Nums where
  B : Blocks
  N : Nat
  z0 : Nat
  z1 : Nat
  zr : Nat
  zm : Nat
  zb : Nat
  zs : Nat
  zp : Nat
  zv : Nat
  M : Nat
structure Nums.Ok (E : Nums) : Prop where
  z0 : E.z0 < E.B.f ∧ E.z0 < E.z1
  z1 : E.z1 < E.B.f
  b : E.B.f < E.B.d ∧ E.B.d < E.B.q ∧ E.B.q < E.B.p ∧ E.B.p < E.B.l ∧ E.B.l < E.B.x
  zr : E.B.x < E.zr
  zb : E.zr < E.zb
  zm : E.zb < E.zm
  zs : E.zm < E.zs
  zp : E.zs < E.zp
  zv : E.zp < E.zv
  M : E.zv < E.M
  N : E.N ≤ E.z0
structure Boxes (E : Nums) (W : World) : Prop where
  r : Boxed W E.zr 88 (.pointer (some ⟨E.B.x, 0, none⟩))
  m : Boxed W E.zm 98 (.map (some E.zb))
  means : MeansAt W E.zb E.B.x
  p : Boxed W E.zp 9 (.string ⟨#[10]⟩)
  v : Boxed W E.zv 3 (.int .i64 0)
  s : ∃ v, Boxed W E.zs 9 v
def LoopI (E : Nums) (w : World) (pre : List ByteArray) (W : World) : Prop :=
  ∃ st cv kv, doLines {} (wl pre) 1 = .ok st ∧ StB E.B cv kv E.N W st pre.length ∧ Boxed W E.z0 23 (.pointer none) ∧ Boxed W E.z1 43 .nilIface ∧ Boxes E W ∧ Below E.N w W ∧ E.M ≤ W.heap.size
def LoopX (E : Nums) (w : World) (pre : List ByteArray) (W : World) : Prop :=
  ∃ k ln : Int, doLines {} (wl pre) 1 = .error (k, ln) ∧ Boxed W E.z0 23 (.pointer none) ∧ Boxed W E.z1 43 (.iface 111 (.agg #[.int .i64 k, .int .i64 ln, .int .i64 0])) ∧ Below E.N w W ∧ E.M ≤ W.heap.size
theorem StB.step {E : Nums} (ok : E.Ok) {cv kv : Value} {W W' : World} {st : St} {line : Int} (h : StB E.B cv kv E.N W st line) (hs : ∃ v, Boxed W E.zs 9 v) {row : Option Nat} (hg : W.grownBy W' row) (hr : ∀ r, row = some r → r = E.zs ∨ (E.M ≤ r ∧ ∃ o : Obj, W.heap[r]? = some o ∧ o.isCells = false)) : StB E.B cv kv E.N W' st line := by
  obtain ⟨v, hv⟩ := hs
  have a1 := ok.b
  have a2 := ok.zr
  have a3 := ok.zb
  have a4 := ok.zm
  have a5 := ok.zs
  have a6 := ok.zp
  have a7 := ok.zv
  have a8 := ok.M
  have own : ∀ {u : Value} {n : Nat} {xs : List Value} {k : Nat}, W.ownsRow E.N 162 3 u n xs → row = some k → u.ownBlock ≠ some k := by
    intro u n xs k hu hk hg'
    obtain ⟨_, cur, hh⟩ := own_block hu hg'
    rcases hr k hk with rfl | ⟨_, o, ho, hc⟩
    · exact absurd (cells_type hh (show W.heap[E.zs]? = some (.cells #[v] 9 (0, 0)) from hv)) (by decide)
    · rw [hh] at ho
      injection ho with ho
      subst ho
      cases hc
  refine h.grown hg (fun k hk cs hh => ?_) (fun k hk => ?_)
  · rcases hr k hk with rfl | ⟨_, o, ho, hc⟩
    · exact absurd (cells_type hh (show W.heap[E.zs]? = some (.cells #[v] 9 (0, 0)) from hv)) (by decide)
    · rw [hh] at ho
      injection ho with ho
      subst ho
      cases hc
  · have : E.B.x < k := by
      rcases hr k hk with rfl | ⟨hM, _⟩
      · omega
      · omega
    exact ⟨by omega, by omega, by omega, by omega, by omega, by omega, own h.hc hk, own h.hk hk⟩
theorem boxStep {E : Nums} {W W' : World} {z : Nat} {t : TypeId} {v : Value} (h : Boxed W z t v) (hz : z ≠ E.zs ∧ z < E.M) {row : Option Nat} (hg : W.grownBy W' row) (hr : ∀ r, row = some r → r = E.zs ∨ (E.M ≤ r ∧ ∃ o : Obj, W.heap[r]? = some o ∧ o.isCells = false)) : Boxed W' z t v :=
  h.kept hg (fun e => by
    rcases hr z e.symm with h | ⟨h, _⟩
    · exact hz.1 h
    · omega)
theorem Boxes.step {E : Nums} (ok : E.Ok) {W W' : World} (h : Boxes E W) {row : Option Nat} (hg : W.grownBy W' row) (hr : ∀ r, row = some r → r = E.zs ∨ (E.M ≤ r ∧ ∃ o : Obj, W.heap[r]? = some o ∧ o.isCells = false)) (hb : BoxStays E.zs 9 W W') : Boxes E W' := by
  have a2 := ok.zr
  have a3 := ok.zb
  have a4 := ok.zm
  have a5 := ok.zs
  have a6 := ok.zp
  have a7 := ok.zv
  have a8 := ok.M
  obtain ⟨v, hv⟩ := h.s
  exact {
    r := boxStep (E := E) h.r (by omega) hg hr
    m := boxStep (E := E) h.m (by omega) hg hr
    means := (hg.block _ (lt_of_block h.means) (fun e => by
      rcases hr _ e.symm with h | ⟨h, _⟩
      · omega
      · omega)).trans h.means
    p := boxStep (E := E) h.p (by omega) hg hr
    v := boxStep (E := E) h.v (by omega) hg hr
    s := hb v hv }
theorem below_step {E : Nums} (ok : E.Ok) {w W W' : World} (h : Below E.N w W) (hM : E.M ≤ W.heap.size) {row : Option Nat} (hg : W.grownBy W' row) (hr : ∀ r, row = some r → r = E.zs ∨ (E.M ≤ r ∧ ∃ o : Obj, W.heap[r]? = some o ∧ o.isCells = false)) : Below E.N w W' := by
  have a0 := ok.z0
  have a1 := ok.b
  have a2 := ok.zr
  have a3 := ok.zb
  have a4 := ok.zm
  have a5 := ok.zs
  have a6 := ok.zp
  have a7 := ok.zv
  have a8 := ok.M
  have a9 := ok.N
  exact h.grown hg (by omega) (fun k hk => by
    rcases hr k hk with rfl | ⟨h, _⟩
    · omega
    · omega)
theorem LoopI.own {E : Nums} (ok : E.Ok) (w : World) : OwnZ E.zs E.M 9 (LoopI E w) := by
  intro pre W W' row ⟨st, cv, kv, h1, h2, h3, h4, h5, h6, h7⟩ hg hr hb
  have a0 := ok.z0
  have a01 := ok.z1
  have a1 := ok.b
  have a2 := ok.zr
  have a3 := ok.zb
  have a4 := ok.zm
  have a5 := ok.zs
  have a6 := ok.zp
  have a7 := ok.zv
  have a8 := ok.M
  exact ⟨st, cv, kv, h1, h2.step ok h5.s hg hr, boxStep (E := E) h3 (by omega) hg hr, boxStep (E := E) h4 (by omega) hg hr, h5.step ok hg hr hb, below_step ok h6 h7 hg hr, Nat.le_trans h7 hg.size⟩
theorem LoopX.own {E : Nums} (ok : E.Ok) (w : World) : OwnZ E.zs E.M 9 (LoopX E w) := by
  intro pre W W' row ⟨k, ln, h1, h3, h4, h6, h7⟩ hg hr _
  have a0 := ok.z0
  have a01 := ok.z1
  have a1 := ok.b
  have a2 := ok.zr
  have a3 := ok.zb
  have a4 := ok.zm
  have a5 := ok.zs
  have a6 := ok.zp
  have a7 := ok.zv
  have a8 := ok.M
  exact ⟨k, ln, h1, boxStep (E := E) h3 (by omega) hg hr, boxStep (E := E) h4 (by omega) hg hr, below_step ok h6 h7 hg hr, Nat.le_trans h7 hg.size⟩
theorem nameOf {s : ByteArray} {n : ByteArray} : (s == n) = true ↔ s.data.toList = n.data.toList := by
  rw [beq_bytes]
  simp
theorem line_none {s : ByteArray} {rest : List ByteArray} (h : meanFn s = none) (st : St) (line : Int) : doLine st (wl (s :: rest)) line = .error 12 := by
  unfold meanFn at h
  have e : wl (s :: rest) = s.data.toList :: wl rest := rfl
  rw [e]
  unfold doLine
  by_cases h1 : (s == nClass) = true
  · rw [if_pos h1] at h; cases h
  rw [if_neg h1] at h
  by_cases h2 : (s == nKind) = true
  · rw [if_pos h2] at h; cases h
  rw [if_neg h2] at h
  by_cases h3 : (s == nFold) = true
  · rw [if_pos h3] at h; cases h
  rw [if_neg h3] at h
  by_cases h4 : (s == nDecomp) = true
  · rw [if_pos h4] at h; cases h
  rw [nameOf] at h1 h2 h3 h4
  simp only
  rw [if_neg (show ¬ s.data.toList = nameClass from h1), if_neg (show ¬ s.data.toList = nameKind from h2), if_neg (show ¬ s.data.toList = nameFold from h3), if_neg (show ¬ s.data.toList = nameDecomp from h4)]
theorem line_calls {B : Blocks} {cv kv : Value} {n₀ : Nat} {st : St} {line : Int} (s : ByteArray) (rest : List ByteArray) (f : Nat) (hf : meanFn s = some f) (v : Value) (hsz : ∀ x ∈ s :: rest, x.size ≤ 1048576) (hne : ∀ x ∈ s :: rest, 0 < x.size) (hok : StOk st) {m : Int} {ev : Value} (w : World) (h : StB B cv kv n₀ w st line) (hn₀ : n₀ ≤ w.heap.size) (hm1 : st.d.classes.length ≤ 1048576) (hm2 : st.d.kinds.length ≤ 1048576) (hv : Vars n₀ w m ev) (hw : WordsAt w.heap.size w v (s :: rest)) :
    (f = 64 ∨ f = 65 ∨ f = 66 ∨ f = 67) ∧ Calls Tryz.prog f #[.pointer (some ⟨B.x, 0, none⟩), v] w fun e w' => MethOut B n₀ line (doLine st (wl (s :: rest)) line) e w' ∧ Bel B n₀ w w' := by
  unfold meanFn at hf
  have e : wl (s :: rest) = s.data.toList :: wl rest := rfl
  have hd : ∀ L, doLine st (s.data.toList :: L) line = if s.data.toList = nameClass then doClass st (s.data.toList :: L) else if s.data.toList = nameKind then doKind st (s.data.toList :: L) else if s.data.toList = nameFold then doFold st (s.data.toList :: L) else if s.data.toList = nameDecomp then doDecomp st (s.data.toList :: L) line else .error 12 := fun L => rfl
  rw [e, hd, ← e]
  by_cases h1 : (s == nClass) = true
  · rw [if_pos h1] at hf
    injection hf with hf
    subst hf
    rw [if_pos (show s.data.toList = nameClass from nameOf.1 h1)]
    exact ⟨.inl rfl, classLine_calls v (s :: rest) hsz hne w h hn₀ hm1 hv hw⟩
  rw [if_neg h1] at hf
  rw [if_neg (show ¬ s.data.toList = nameClass from fun h => h1 (nameOf.2 h))]
  by_cases h2 : (s == nKind) = true
  · rw [if_pos h2] at hf
    injection hf with hf
    subst hf
    rw [if_pos (show s.data.toList = nameKind from nameOf.1 h2)]
    exact ⟨.inr (.inl rfl), kindLine_calls v (s :: rest) hsz w h hn₀ hm2 hv hw⟩
  rw [if_neg h2] at hf
  rw [if_neg (show ¬ s.data.toList = nameKind from fun h => h2 (nameOf.2 h))]
  by_cases h3 : (s == nFold) = true
  · rw [if_pos h3] at hf
    injection hf with hf
    subst hf
    rw [if_pos (show s.data.toList = nameFold from nameOf.1 h3)]
    exact ⟨.inr (.inr (.inl rfl)), foldLine_calls v (s :: rest) hsz w h hn₀ hw⟩
  rw [if_neg h3] at hf
  rw [if_neg (show ¬ s.data.toList = nameFold from fun h => h3 (nameOf.2 h))]
  by_cases h4 : (s == nDecomp) = true
  · rw [if_pos h4] at hf
    injection hf with hf
    subst hf
    rw [if_pos (show s.data.toList = nameDecomp from nameOf.1 h4)]
    exact ⟨.inr (.inr (.inr rfl)), decompLine_calls v (s :: rest) hsz hok w h hn₀ hw⟩
  · rw [if_neg h4] at hf
    cases hf
theorem Bel.boxed {E : Nums} {W W' : World} (h : Bel E.B E.N W W') {z : Nat} {t : TypeId} {v : Value} (hb : Boxed W z t v) (hz : z ≠ E.B.p ∧ z ≠ E.B.l ∧ z ≠ E.B.f ∧ z ≠ E.B.d ∧ z ≠ E.B.q) (ht : t ≠ 162) : Boxed W' z t v :=
  h.keep z _ hb hz.1 hz.2.1 hz.2.2.1 hz.2.2.2.1 hz.2.2.2.2 (fun cs e => by
    injection e with _ e _
    exact ht e)
theorem Bel.boxes {E : Nums} (ok : E.Ok) {W W' : World} (h : Bel E.B E.N W W') (hb : Boxes E W) : Boxes E W' := by
  have a1 := ok.b
  have a2 := ok.zr
  have a3 := ok.zb
  have a4 := ok.zm
  have a5 := ok.zs
  have a6 := ok.zp
  have a7 := ok.zv
  obtain ⟨v, hv⟩ := hb.s
  exact {
    r := h.boxed hb.r (by omega) (by decide)
    m := h.boxed hb.m (by omega) (by decide)
    means := h.keep _ _ hb.means (by omega) (by omega) (by omega) (by omega) (by omega) (fun cs e => by cases e)
    p := h.boxed hb.p (by omega) (by decide)
    v := h.boxed hb.v (by omega) (by decide)
    s := ⟨v, h.boxed hv (by omega) (by decide)⟩ }
structure Apace (E : Nums) (W W' : World) : Prop where
  below : Below E.N W W'
  boxes : Boxes E W'
  z0 : Boxed W' E.z0 23 (.pointer none)
  z1 : Boxed W' E.z1 43 .nilIface
  loose : ∀ (l : Nat) (o : Obj), E.M ≤ l → W.heap[l]? = some o → o.isCells = false → W'.heap[l]? = some o
  three : Keep3 E.zs E.zp E.zv W W'
  size : W.heap.size ≤ W'.heap.size
theorem Apace.keeps {E : Nums} {W W' : World} (h : Apace E W W') : KeepsFrom E.M W W' := ⟨h.size, fun l o h1 h2 h3 => h.loose l o h1 h2 h3⟩
theorem Apace.of {E : Nums} (ok : E.Ok) {W W1 W' : World} {u : Value} (hb : Boxes E W) (h0 : Boxed W E.z0 23 (.pointer none)) (h1 : Boxed W E.z1 43 .nilIface) (hW : E.N ≤ W.heap.size) (hW1 : W.setCell ⟨E.B.x, 2, none⟩ u = W1) (hB : Bel E.B E.N W1 W') : Apace E W W' := by
  have a0 := ok.z0
  have a01 := ok.z1
  have a1 := ok.b
  have a2 := ok.zr
  have a3 := ok.zb
  have a4 := ok.zm
  have a5 := ok.zs
  have a6 := ok.zp
  have a7 := ok.zv
  have a8 := ok.M
  have a9 := ok.N
  have hs := setCell_grown W ⟨E.B.x, 2, none⟩ u
  rw [hW1] at hs
  have ne : ∀ k, k ≠ E.B.x → some k ≠ some E.B.x := fun k h e => h (by injection e)
  obtain ⟨v, hv⟩ := hb.s
  have hb1 : Boxes E W1 := {
    r := hb.r.kept hs (ne _ (by omega))
    m := hb.m.kept hs (ne _ (by omega))
    means := (hs.block _ (lt_of_block hb.means) (ne _ (by omega))).trans hb.means
    p := hb.p.kept hs (ne _ (by omega))
    v := hb.v.kept hs (ne _ (by omega))
    s := ⟨v, hv.kept hs (ne _ (by omega))⟩ }
  have hb2 := hB.boxes ok hb1
  have hv1 : Boxed W1 E.zs 9 v := hv.kept hs (ne _ (by omega))
  have hv2 := hB.boxed hv1 (by omega) (by decide)
  have hz0 : Boxed W1 E.z0 23 (.pointer none) := h0.kept hs (ne _ (by omega))
  have hz1 : Boxed W1 E.z1 43 .nilIface := h1.kept hs (ne _ (by omega))
  exact {
    below := ((Below.refl E.N W).grown hs hW (fun k e => by have e : E.B.x = k := Option.some.inj e; omega)).trans hB.below
    boxes := hb2
    z0 := hB.boxed hz0 (by omega) (by decide)
    z1 := hB.boxed hz1 (by omega) (by decide)
    loose := fun l o hl ho hc => hB.keep l o ((hs.block l (lt_of_block ho) (ne _ (by omega))).trans ho) (by omega) (by omega) (by omega) (by omega) (by omega) (fun cs e => by subst e; cases hc)
    three := ⟨hv2.trans hv.symm, hb2.p.trans hb.p.symm, hb2.v.trans hb.v.symm⟩
    size := Nat.le_trans hs.size hB.below.size }
theorem round_next {E : Nums} {w W W' : World} {pre : List ByteArray} {x : ByteArray} {st st' : St} {cv kv : Value} {ln : Int} (h1 : doLines {} (wl pre) 1 = .ok st) (hb : Below E.N w W) (hM : E.M ≤ W.heap.size) (hln : (pre.length : Int) = ln) (ha : Apace E W W') (hst : StB E.B cv kv E.N W' st' (ln + 1)) (hd : doLine st (wordsOf x.data.toList) (ln + 1) = .ok st') :
    KeepsFrom E.M W W' ∧ Keep3 E.zs E.zp E.zv W W' ∧ LoopI E w (pre ++ [x]) W' := by
  refine ⟨ha.keeps, ha.three, st', cv, kv, ?_, ?_, ha.z0, ha.z1, ha.boxes, hb.trans ha.below, Nat.le_trans hM ha.size⟩
  · rw [doLines_snoc h1 x, show 1 + (pre.length : Int) = ln + 1 by omega, hd]
  · have : ((pre ++ [x]).length : Int) = ln + 1 := by simp; omega
    rw [this]
    exact hst
theorem round_stop {E : Nums} (ok : E.Ok) {w W W' : World} {pre : List ByteArray} {x : ByteArray} {st : St} {ln k : Int} (h1 : doLines {} (wl pre) 1 = .ok st) (hb : Below E.N w W) (hM : E.M ≤ W.heap.size) (hln : (pre.length : Int) = ln) (ha : Apace E W W') (hd : doLine st (wordsOf x.data.toList) (ln + 1) = .error k) {W2 : World} (hW2 : (W'.setCell ⟨E.z0, 0, none⟩ (.pointer none)).setCell ⟨E.z1, 0, none⟩ (.iface 111 (.agg #[.int .i64 k, .int .i64 (ln + 1), .int .i64 0])) = W2) :
    KeepsFrom E.M W W2 ∧ LoopX E w (pre ++ [x]) W2 := by
  have a0 := ok.z0
  have a01 := ok.z1
  have a1 := ok.b
  have a2 := ok.zr
  have a3 := ok.zb
  have a4 := ok.zm
  have a5 := ok.zs
  have a6 := ok.zp
  have a7 := ok.zv
  have a8 := ok.M
  have a9 := ok.N
  have hs1 := setCell_grown W' ⟨E.z0, 0, none⟩ (.pointer none)
  have hs2 := setCell_grown (W'.setCell ⟨E.z0, 0, none⟩ (.pointer none)) ⟨E.z1, 0, none⟩ (.iface 111 (.agg #[.int .i64 k, .int .i64 (ln + 1), .int .i64 0]))
  have b0 := ha.z0.set (.pointer none)
  have b1 : Boxed (W'.setCell ⟨E.z0, 0, none⟩ (.pointer none)) E.z1 43 .nilIface := ha.z1.kept hs1 (fun e => by have e : E.z1 = E.z0 := Option.some.inj e; omega)
  have c0 := b0.kept hs2 (fun e => by have e : E.z0 = E.z1 := Option.some.inj e; omega)
  have c1 := b1.set (.iface 111 (.agg #[.int .i64 k, .int .i64 (ln + 1), .int .i64 0]))
  rw [hW2] at hs2 c0 c1
  have hz := ha.size
  have hB2 : Below E.N W' W2 := ((Below.refl E.N W').grown hs1 (by have := hb.size; omega) (fun k e => by have e : E.z0 = k := Option.some.inj e; omega)).grown hs2 (by have := hs1.size; omega) (fun k e => by have e : E.z1 = k := Option.some.inj e; omega)
  have hs12 := Nat.le_trans hs1.size hs2.size
  refine ⟨⟨Nat.le_trans hz hs12, fun l o hl ho hc => ?_⟩, k, ln + 1, ?_, c0, c1, (hb.trans ha.below).trans hB2, by omega⟩
  · have h5 := ha.loose l o hl ho hc
    have h6 := lt_of_block h5
    rw [hs2.block l (by have := hs1.size; omega) (fun e => by have e : l = E.z1 := Option.some.inj e; omega), hs1.block l h6 (fun e => by have e : l = E.z0 := Option.some.inj e; omega)]
    exact h5
  · rw [doLines_snoc h1 x, show 1 + (pre.length : Int) = ln + 1 by omega, hd]
end Go.Proofs.YtikpkjpnehkbfaaGreatDoor.Pr
