/- The law CellsAll: the walk. -/
import Derived.Test.YtfmcadobpgpajaaGreatDoorLawBeside
import Derived.Test.YtfmcadobpgpajaaGreatDoorRefAll
import Derived.Test.YtfmcadobpgpajaaGreatDoorCellBreak
namespace Go.Proofs.YtfmcadobpgpajaaGreatDoor.Cl
open Go Go.RowKit Go.Shelf Go.Proofs.YtfmcadobpgpajaaGreatDoor.Sp Go.Proofs.YtfmcadobpgpajaaGreatDoor.Ut Go.Proofs.YtfmcadobpgpajaaGreatDoor.Pr Go.Proofs.YtfmcadobpgpajaaGreatDoor.Rf Go.Proofs.YtfmcadobpgpajaaGreatDoor.Ru
attribute [local go_sem] Oper.semAt_some
set_option linter.unusedSimpArgs false
set_option linter.unusedVariables false

abbrev box0 (w : World) (stop : Int) : World := w.alloc (.cells #[.int .i64 stop] 3)
theorem call_none (f s : ByteArray) (stop : Int) (w : World) (hB : NoneAt f (box0 w stop)) (hW : WorksAt w) : Calls Tryz.prog 5 #[.string f, .string s, .int .i64 stop] w fun e w' => e = .returned (.bool true) ∧ Below w.heap.size w w' := by
  have HB := Lib.hid hB
  have HW := Lib.hid hW
  have HX : Hid (Below w.heap.size w (box0 w stop)) := Lib.hid ((Below.refl _ w).alloc (Nat.le_refl _) _)
  clear hB hW
  refine callsIn_wide.1 (callsIn_of_wp_marks (F := .wide) (n := 3) Tryz.func5 rfl trivial ?_ rfl)
  simp only [Tryz.ntmps5, List.size_toArray, List.length_cons, List.length_nil, Nat.reduceAdd, Nat.reduceSub, Array.replicate_succ, Array.replicate_zero, List.push_toArray, List.append_toArray, List.nil_append, List.cons_append]
  refine wpIn_wide.2 ?_
  go_wp2_with (first
    | (go_at_call 8; (with_reducible refine HB.out.mono ?_); rintro e w1 ⟨rfl, hb⟩)
    | (go_at_call 9; (with_reducible refine (HW.out _ (below_then' HX.out hb)).mono ?_); rintro e w2 ⟨rfl, hb2⟩))
  exact leave (n₀ := w.heap.size) [] 0 _ (by have := HX.out.size; have := hb.size; have := hb2.size; omega) trivial (fun W' hb' => ⟨_, results_tmp rfl _ _ _, rfl, (below_then' (below_then' HX.out hb) hb2).trans hb'⟩)
theorem call_long (f s : ByteArray) (stop : Int) (D : PD) (w : World) (hB : SomeAt f D (box0 w stop)) (hW : WorksAt w) (h1 : (4096 : Int) < s.size) : Calls Tryz.prog 5 #[.string f, .string s, .int .i64 stop] w fun e w' => e = .returned (.bool true) ∧ Below w.heap.size w w' := by
  have HB := Lib.hid hB
  have HW := Lib.hid hW
  have HX : Hid (Below w.heap.size w (box0 w stop)) := Lib.hid ((Below.refl _ w).alloc (Nat.le_refl _) _)
  clear hB hW
  refine callsIn_wide.1 (callsIn_of_wp_marks (F := .wide) (n := 3) Tryz.func5 rfl trivial ?_ rfl)
  simp only [Tryz.ntmps5, List.size_toArray, List.length_cons, List.length_nil, Nat.reduceAdd, Nat.reduceSub, Array.replicate_succ, Array.replicate_zero, List.push_toArray, List.append_toArray, List.nil_append, List.cons_append]
  refine wpIn_wide.2 ?_
  go_wp2_with (first
    | (go_at_call 8; (with_reducible refine HB.out.mono ?_); rintro e w1 ⟨p, q, st, rfl, -, -, -, hb⟩)
    | (go_at_call 9; (with_reducible refine (HW.out _ (below_then' HX.out hb)).mono ?_); rintro e w2 ⟨rfl, hb2⟩))
  exact leave (n₀ := w.heap.size) [] 0 _ (by have := HX.out.size; have := hb.size; have := hb2.size; omega) trivial (fun W' hb' => ⟨_, results_tmp rfl _ _ _, rfl, (below_then' (below_then' HX.out hb) hb2).trans hb'⟩)
theorem box_later {w w1 w2 : World} {stop : Int} (h1 : Below (box0 w stop).heap.size (box0 w stop) w1) (h2 : Below w1.heap.size w1 w2) : Boxed w2 w.heap.size 3 (.int .i64 stop) := by
  have h0 : Boxed (box0 w stop) w.heap.size 3 (.int .i64 stop) := Boxed.new w 3 (.int .i64 stop)
  have hs : w.heap.size < (box0 w stop).heap.size := by simp [World.size_alloc]
  have := h1.size
  exact (h2.block _ (by omega)).trans ((h1.block _ hs).trans h0)
theorem edge_pair {w : World} {p q : Nat} {st : St} (HP : PropsAt w.heap.size w p st.d) (HR : RefAt q w st) (HU : U8 w) {s : ByteArray} (hs : s.size ≤ 1048576) (z : Int) : ∃ b, EdgeAt w p s z b ∧ (∀ W, Below w.heap.size w W → Calls Tryz.prog 18 #[.pointer (some ⟨q, 0, none⟩), .string s, .int .i64 z] W fun e w' => e = .returned (.bool b) ∧ Below W.heap.size W w') ∧ (z < 0 ∨ (s.size : Int) < z → b = false) :=
  ⟨_, edgeCall HP HU hs rfl, fun W hW => REdge_calls q st s hs z W (HR.on hW), fun h => by
    unfold edgeAt
    rw [Lib.size_eq] at h
    rcases h with h | h
    · simp [show ¬ (0 : Int) ≤ z by omega]
    · have h' : ¬ z ≤ (s.size : Int) := by rw [Lib.size_eq]; omega
      simp [h']⟩
theorem sameT {v v' : Value} {l l' : List (Nat × Nat)} (W : World) (h : ReadPairs W v l) (h' : ReadPairs W v' l') (e : l = l') : Calls Tryz.prog 15 #[v, v'] W fun e w' => e = .returned (.bool true) ∧ Below W.heap.size W w' :=
  (same_pairs v v' l l' W h h').mono fun e' w' ⟨h1, h2⟩ => ⟨by rw [h1, decide_eq_true e], h2⟩
theorem gatherT {gf : Nat} {lb : Array Value} {L : List (Nat × Nat)} {w0 : World} (hL : L.length ≤ 1048576) (hG : Gives w0 gf lb L) (W : World) (hb : Below w0.heap.size w0 W) : Calls Tryz.prog 16 #[.func (.func gf) #[] lb] W fun e w' => ∃ A c, e = .returned (.slice A L.length c) ∧ ReadPairs w' (.slice A L.length c) L ∧ Below W.heap.size W w' :=
  (gathered_calls gf lb L hL w0 W hb hG).mono fun e w' ⟨v, h1, h2, h3⟩ => by
    obtain ⟨A, c, rfl⟩ := readP_slice (ReadPairs.own h2)
    exact ⟨A, c, h1, ReadPairs.own h2, h3⟩
theorem turnT {v : Value} {L : List (Nat × Nat)} (hL : L.length ≤ 1048576) (W : World) (h : ReadPairs W v L) : Calls Tryz.prog 17 #[v] W fun e w' => ∃ A c, e = .returned (.slice A L.length c) ∧ ReadPairs w' (.slice A L.length c) L.reverse ∧ Below W.heap.size W w' :=
  (turned_calls v L W h hL).mono fun e w' ⟨v, h1, h2, h3⟩ => by
    obtain ⟨A, c, rfl⟩ := readP_slice (ReadPairs.own h2)
    have h4 := ReadPairs.own h2
    rw [List.length_reverse] at h1 h4
    exact ⟨A, c, h1, h4, h3⟩
/-- Behind a loop that wrote its box alone. -/
theorem past_loop {n₀ : Nat} {X W9 Wb : World} {o : Obj} (h : Below X.heap.size X W9) (hbl : Below n₀ (W9.alloc o) Wb) (hkeep : ∀ k, k < (W9.alloc o).heap.size → k ≠ W9.heap.size → Wb.heap[k]? = (W9.alloc o).heap[k]?) : Below X.heap.size X Wb := by
  have h2 : Below X.heap.size X (W9.alloc o) := h.alloc h.size _
  have hs := h.size
  exact ⟨hbl.os.trans h2.os, hbl.tape.trans h2.tape, hbl.output.trans h2.output, Nat.le_trans h2.size hbl.size, fun k hk => (hkeep k (by rw [World.size_alloc]; omega) (by omega)).trans (h2.block k hk)⟩
/-- Both loops' marks lie on top of the earlier ones. -/
theorem two_marks {n₀ X D D2 : Nat} {W Wb Wc : World} {ds : List Deferred} (h : Below W.heap.size W Wb) (hX : W.heap.size ≤ X) (hD : X + 1 ≤ D) (hn : n₀ ≤ W.heap.size) (hd : Wb.heap[D]? = some (.deferred (some []))) (hbl : Below n₀ Wb Wc) (hkeep : ∀ k, k < Wb.heap.size → k ≠ X → Wc.heap[k]? = Wb.heap[k]?) (hD2 : Wb.heap.size ≤ D2) (hd2 : Wc.heap[D2]? = some (.deferred (some []))) (hc : Coll n₀ W ds W.heap.size) :
    Coll n₀ Wc ({ target := .collected D2, args := #[] } :: { target := .collected D, args := #[] } :: ds) Wc.heap.size ∧ Below W.heap.size W Wc := by
  have hDb := (Array.getElem?_eq_some_iff.1 hd).1
  have hb : Below W.heap.size W Wc := ⟨hbl.os.trans h.os, hbl.tape.trans h.tape, hbl.output.trans h.output, Nat.le_trans h.size hbl.size, fun k hk => (hkeep k (by have := h.size; omega) (by omega)).trans (h.block k hk)⟩
  have hs := h.size
  exact ⟨⟨D2, rfl, by omega, (Array.getElem?_eq_some_iff.1 hd2).1, hd2, D, rfl, by omega, by omega, (hkeep D hDb (by omega)).trans hd, (hc.later hb).up (by omega)⟩, hb⟩
set_option maxHeartbeats 8000000 in
set_option maxRecDepth 100000 in
theorem call_main (f s : ByteArray) (stop : Int) (D : PD) (w : World) (hB : SomeAt f D (box0 w stop)) (hW : WorksAt w) (hU : U8 w) (h1 : (s.size : Int) ≤ 4096) : Calls Tryz.prog 5 #[.string f, .string s, .int .i64 stop] w fun e w' => e = .returned (.bool true) ∧ Below w.heap.size w w' := by
  have HB := Lib.hid hB
  have HW := Lib.hid hW
  have HU := Lib.hid hU
  have HX : Hid (Below w.heap.size w (box0 w stop)) := Lib.hid ((Below.refl _ w).alloc (Nat.le_refl _) _)
  have hsz : s.size ≤ 1048576 := by omega
  have d1 : decide ((4096 : Int) < (s.size : Int)) = false := decide_eq_false (by omega)
  have HZ := Lib.hid hsz
  clear hB hW hU hsz
  refine callsIn_wide.1 (callsIn_of_wp_marks (F := .wide) (n := 3) Tryz.func5 rfl trivial ?_ rfl)
  simp only [Tryz.ntmps5, List.size_toArray, List.length_cons, List.length_nil, Nat.reduceAdd, Nat.reduceSub, Array.replicate_succ, Array.replicate_zero, List.push_toArray, List.append_toArray, List.nil_append, List.cons_append]
  refine wpIn_wide.2 ?_
  go_wp2_with (first
    | (go_at_call 8; (with_reducible refine HB.out.mono ?_); rintro e w1 ⟨p, q, st, rfl, hp, hr, rfl, hb⟩; have HP := Lib.hid hp; have HR := Lib.hid hr; have HB1 := Lib.hid hb; clear hp hr hb)
    | (go_at_call 12; (refine (RAll_calls q st s HZ.out w1 HR.out).mono ?_); rintro e w2 ⟨v2, rfl, ho2, hb2⟩; have R2 := Lib.hid (ReadPairs.own ho2); obtain ⟨A2, k2, rfl⟩ := readP_slice R2.out; have HB2 := Lib.hid hb2; clear ho2 hb2)
    | (go_at_call 13; (refine (All_calls p s w2).mono ?_); rintro e w3 ⟨rfl, hw3⟩; subst w3)
    | (go_at_call 14; (refine (Back_calls p s _).mono ?_); rintro e w4 ⟨rfl, hw4⟩; subst w4))
  have HG := Lib.hid (gives_all HP.out (HU.out.on (below_then' HX.out HB1.out)) HB2.out s HZ.out)
  have hh := gives_back HP.out (HU.out.on (below_then' HX.out HB1.out)) (below_then' HB2.out (iter_below w2 p s)) s HZ.out
  rw [show (iterW w2 p s).heap.size = w2.heap.size + 1 + 1 by simp [World.size_alloc]] at hh
  have HH := Lib.hid hh
  clear hh
  have hL : (cells st.d s.data.toList).length ≤ 1048576 := Nat.le_trans (cells_length _ _) (by rw [← Lib.size_eq]; exact HZ.out)
  have HEP := Lib.hid (fun z => edge_pair HP.out HR.out (HU.out.on (below_then' HX.out HB1.out)) HZ.out z)
  have HCN := Lib.hid (countCall HP.out (HU.out.on (below_then' HX.out HB1.out)) HZ.out rfl)
  have HBX : Hid (Boxed w2 w.heap.size 3 (.int .i64 stop)) := Lib.hid (box_later HB1.out HB2.out)
  generalize cells st.d s.data.toList = L at *
  have hlen : ∀ (K : Prop), K → K := fun _ h => h
  obtain ⟨w3, hw3⟩ : ∃ w3, iterW (iterW w2 p s) p s = w3 := ⟨_, rfl⟩
  have HH3 := HH.out
  rw [hw3] at HH3
  have HH := Lib.hid HH3
  clear HH3
  have HI : Hid (Below w2.heap.size w2 w3 ∧ Below (iterW w2 p s).heap.size (iterW w2 p s) w3 ∧ iterW (iterW w2 p s) p s = w3) := Lib.hid ⟨by rw [← hw3]; exact below_then' (iter_below w2 p s) (iter_below _ p s), by rw [← hw3]; exact iter_below _ p s, hw3⟩
  change Code.wp _ _ _ _ (iterW (iterW w2 p s) p s)
  rw [hw3]
  clear hw3 hlen
  have hLH := Lib.hid hL
  have R3 : Hid (∀ W, Below w3.heap.size w3 W → ReadPairs W (.slice A2 L.length k2) L) := Lib.hid (fun W hW => R2.out.on (below_then' HI.out.1 hW))
  have HGa := Lib.hid (fun W (hW : Below w3.heap.size w3 W) => gatherT hL HG.out W (below_then' HI.out.2.1 hW))
  have hgb := (fun W (hW : Below w3.heap.size w3 W) => gatherT (L := L.reverse) (by rw [List.length_reverse]; exact hL) HH.out W hW)
  simp only [List.length_reverse] at hgb
  have HGb := Lib.hid hgb
  clear hgb
  clear hL
  refine wp_loop (fun a W => ∃ (k : Nat) (ds : List Deferred) (u14 u39 u40 u41 u42 u43 u44 u45 u46 u47 u48 u49 u50 u51 u52 u53 u54 u55 u56 u57 u58 u59 u60 u61 u62 u63 u64 u65 u66 u67 u68 u69 u70 u71 u72 : Value), a = { tmps := #[.string f, .string s, .int .i64 stop, undef, undef, .pointer (some ⟨w.heap.size, 0, none⟩), .bool false, .pointer (some ⟨p, 0, none⟩), .pointer (some ⟨q, 0, none⟩), .bool true, .slice A2 L.length k2, .func (.func 39) #[] #[.pointer (some ⟨w2.heap.size + 1, 0, none⟩), .pointer (some ⟨w2.heap.size, 0, none⟩)], .func (.func 41) #[] #[.pointer (some ⟨w2.heap.size + 1 + 1 + 1, 0, none⟩), .pointer (some ⟨w2.heap.size + 1 + 1, 0, none⟩)], .int .i64 (k : Int), u14, undef, .tuple #[.pointer (some ⟨p, 0, none⟩), .pointer (some ⟨q, 0, none⟩), .bool true], .string f, .tuple #[.pointer (some ⟨p, 0, none⟩), .pointer (some ⟨q, 0, none⟩), .bool true], .pointer (some ⟨p, 0, none⟩), .pointer (some ⟨q, 0, none⟩), .bool true, .bool true, .bool false, .bool false, .string s, .int .i64 (s.size : Int), .bool false, .bool false, undef, .pointer (some ⟨q, 0, none⟩), .string s, .slice A2 L.length k2, .pointer (some ⟨p, 0, none⟩), .string s, .func (.func 39) #[] #[.pointer (some ⟨w2.heap.size + 1, 0, none⟩), .pointer (some ⟨w2.heap.size, 0, none⟩)], .pointer (some ⟨p, 0, none⟩), .string s, .func (.func 41) #[] #[.pointer (some ⟨w2.heap.size + 1 + 1 + 1, 0, none⟩), .pointer (some ⟨w2.heap.size + 1 + 1, 0, none⟩)], u39, u40, u41, u42, u43, u44, u45, u46, u47, u48, u49, u50, u51, u52, u53, u54, u55, u56, u57, u58, u59, u60, u61, u62, u63, u64, u65, u66, u67, u68, u69, u70, u71, u72, undef, undef, undef, undef, undef, undef, undef, undef, undef, undef, undef, undef, undef, undef, undef, undef, undef, undef, undef, undef, undef, undef, undef, undef, undef, undef, undef, undef, undef, undef, undef, undef, undef, undef, undef, undef, undef], defers := ds } ∧ k ≤ 2 ∧ Coll w.heap.size W ds W.heap.size ∧ Below w3.heap.size w3 W) (fun a _ => 2 - (intOf (a.tmps.getD 13 undef)).toNat) ⟨0, [], _, _, _, _, _, _, _, _, _, _, _, _, _, _, _, _, _, _, _, _, _, _, _, _, _, _, _, _, _, _, _, _, _, _, _, rfl, by omega, trivial, Below.refl _ _⟩ ?_
  rintro a W ⟨k, ds, u14, u39, u40, u41, u42, u43, u44, u45, u46, u47, u48, u49, u50, u51, u52, u53, u54, u55, u56, u57, u58, u59, u60, u61, u62, u63, u64, u65, u66, u67, u68, u69, u70, u71, u72, rfl, hk, hcl, hB⟩
  by_cases hlt : k < 2
  · have hkz : (k : Int) < 2 := by omega
    have HBW := Lib.hid hB
    have HCL := Lib.hid hcl
    clear hB hcl
    go_wp2_with (first
      | (go_at_call 16; (with_reducible refine (HGa.out _ HBW.out).mono ?_); rintro e w5 ⟨A5, c5, rfl, r, hb⟩; have R5 := Lib.hid r; have HB5 := Lib.hid hb; clear r hb)
      | (go_at_call 15; (with_reducible refine (sameT _ R5.out (R3.out _ (below_then' HBW.out HB5.out)) rfl).mono ?_); rintro e w6 ⟨rfl, hb⟩; have HB6 := Lib.hid (below_then' HB5.out hb); clear hb)
      | (go_at_call 16; (with_reducible refine (HGb.out _ (below_then' HBW.out HB6.out)).mono ?_); rintro e w7 ⟨A7, c7, rfl, r, hb⟩; have R7 := Lib.hid r; have HB7 := Lib.hid (below_then' HB6.out hb); clear r hb)
      | (go_at_call 17; (with_reducible refine (turnT hLH.out _ (R3.out _ (below_then' HBW.out HB7.out))).mono ?_); rintro e w8 ⟨A8, c8, rfl, r, hb⟩; have R8 := Lib.hid r; have R7' := Lib.hid (R7.out.on hb); have HB8 := Lib.hid (below_then' HB7.out hb); clear r hb)
      | (go_at_call 15; (with_reducible refine (sameT _ R7'.out R8.out rfl).mono ?_); rintro e w9 ⟨rfl, hb⟩; have HB9 := Lib.hid (below_then' HB8.out hb); clear hb))
    have h39 := below_then' HBW.out HB9.out
    have hbw : Below w2.heap.size w2 w9 := below_then' HI.out.1 h39
    have hbg : Below (iterW w2 p s).heap.size (iterW w2 p s) w9 := below_then' HI.out.2.1 h39
    have hz := HBX.out.lt
    have hS9 : Boxed w9 w.heap.size 3 (.int .i64 stop) := (hbw.block _ hz).trans HBX.out
    have hws := hbw.size
    have hWs : w.heap.size ≤ W.heap.size := by have := HI.out.1.size; have := HBW.out.size; omega
    refine range_break (n₀ := w.heap.size) (w0 := iterW w2 p s) (L := L) (B := w9.heap.size) (S := w.heap.size) (st := .int .i64 stop) (c0 := 0) 2 rfl rfl HG.out (hbg.alloc hbg.size _) hbg.size (by rw [World.size_alloc]; omega) (by omega) (Boxed.new _ _ _) (hS9.alloc _) (by omega) ?_ ?_
    · intro l c x W5 hx hst
      have c1 := hx.cell
      have f1 := hx.frozen
      obtain ⟨z, e1⟩ : ∃ z, wrap64 (c + 1) = z := ⟨_, rfl⟩
      have c3 := (hx.set (.int .i64 z)).cell
      have c4 := (hst.other (by omega : w.heap.size ≠ w9.heap.size) (.int .i64 z)).cell
      clear hws hz hS9 hbg hbw h39 hWs
      by_cases hc : stop < z
      all_goals
        gi_wp2
        exact ⟨_, rfl⟩
    · intro D Wb cc e he hD hbb hss hbl hkeep hdef
      have hpB : Below W.heap.size W Wb := past_loop HB9.out hbl hkeep
      have h3B : Below w3.heap.size w3 Wb := below_then' HBW.out hpB
      have hD' : w9.heap.size + 1 ≤ D := by rw [World.size_alloc] at hD; exact hD
      have hbs := hbl.size
      rw [World.size_alloc] at hbs
      have HBB := Lib.hid (And.intro hpB (And.intro hbb (And.intro hss hdef)))
      clear hbl hkeep hD hpB hbb hss hdef
      rcases he with rfl | rfl
      all_goals
        go_wp2
        refine range_break (n₀ := w.heap.size) (w0 := w3) (L := L.reverse) (B := w9.heap.size) (S := w.heap.size) (st := .int .i64 stop) 4 rfl rfl HH.out h3B h39.size (by omega) (by omega) HBB.out.2.1 HBB.out.2.2.1 (by omega) ?_ ?_
        · intro l c x W5 hx hst
          have c1 := hx.cell
          have f1 := hx.frozen
          obtain ⟨z, e1⟩ : ∃ z, wrap64 (c - 1) = z := ⟨_, rfl⟩
          obtain ⟨y, e3⟩ : ∃ y, wrap64 (-stop) = y := ⟨_, rfl⟩
          have c3 := (hx.set (.int .i64 z)).cell
          have c4 := (hst.other (by omega : w.heap.size ≠ w9.heap.size) (.int .i64 z)).cell
          clear hws hz hS9 hbg hbw h39 h3B hD' hbs hWs
          by_cases hc : z < y
          all_goals
            gi_wp2
            exact ⟨_, rfl⟩
        · intro D2 Wc cc2 e2 he2 hD2 _ _ hbl2 hkeep2 hdef2
          have HE := Lib.hid (two_marks HBB.out.1 HB9.out.size hD' hWs HBB.out.2.2.2 hbl2 hkeep2 hD2 hdef2 HCL.out)
          clear hbl2 hkeep2 hdef2 hD2
          rcases he2 with rfl | rfl
          all_goals
            go_wp2
            rw [show (k : Int) + 1 = ((k + 1 : Nat) : Int) by omega]
            exact ⟨⟨k + 1, _, _, _, _, _, _, _, _, _, _, _, _, _, _, _, _, _, _, _, _, _, _, _, _, _, _, _, _, _, _, _, _, _, _, _, _, rfl, by omega, HE.out.1, below_then' HBW.out HE.out.2⟩, by simp [intOf]; omega⟩
  · have hkz : ¬ (k : Int) < 2 := by omega
    have HBW := Lib.hid hB
    have HCL := Lib.hid hcl
    have H1W : Hid (Below w1.heap.size w1 W) := Lib.hid (below_then' (below_then' HB2.out HI.out.1) hB)
    have HXW : Hid (Below w.heap.size w W) := Lib.hid (below_then' (below_then' HX.out HB1.out) H1W.out)
    obtain ⟨bm, EM, _, hm⟩ := HEP.out (-9223372036854775808)
    obtain ⟨bx, EX, _, hx⟩ := HEP.out 9223372036854775807
    have hm' := hm (.inl (by omega))
    have hx' := hx (.inr (by omega))
    subst hm'
    subst hx'
    have HEM := Lib.hid EM
    have HEX := Lib.hid EX
    clear hB hcl EM EX hm hx hlt HGa HGb R3 HG HH
    go_wp2
    go_loopw [15] (fun v wr => ∃ z : Int, v = .int .i64 z ∧ -2 ≤ z ∧ z ≤ (s.size : Int) + 3 ∧ Below W.heap.size W wr) (fun v _ => ((s.size : Int) + 3 - intOf v).toNat)
    case atStart => exact ⟨-2, rfl, by omega, by omega, Below.refl _ _⟩
    case round =>
      obtain ⟨z, rfl, hz0, hz1, hBr⟩ := hrel
      by_cases hzl : z ≤ (s.size : Int) + 2
      · obtain ⟨b, E1, E2, _⟩ := HEP.out z
        have HE1 := Lib.hid E1
        have HE2 := Lib.hid E2
        have HBR := Lib.hid hBr
        clear E1 E2 hBr
        cases b
        all_goals
          go_wp2_with (first
            | (go_at_call 10; (with_reducible refine (HE1.out _ (below_then' H1W.out HBR.out)).mono ?_); rintro e w5 ⟨rfl, hb⟩; have HB5 := Lib.hid (below_then' HBR.out hb); clear hb)
            | (go_at_call 18; (with_reducible refine (HE2.out _ (below_then' H1W.out HB5.out)).mono ?_); rintro e w6 ⟨rfl, hb⟩; have HB6 := Lib.hid (below_then' HB5.out hb); clear hb))
          go_roundw
          case rel => exact ⟨z + 1, rfl, by omega, by omega, HB6.out⟩
          case measure => (simp [intOf]; omega)
      · have HBR := Lib.hid hBr
        clear hBr
        go_wp2_with (first
          | (go_at_call 19; (with_reducible refine (HCN.out _ (below_then' H1W.out HBR.out)).mono ?_); rintro e w5 ⟨rfl, hb⟩; have HB5 := Lib.hid (below_then' HBR.out hb); clear hb)
          | (go_at_call 10; (with_reducible refine (HEM.out _ (below_then' H1W.out HB5.out)).mono ?_); rintro e w6 ⟨rfl, hb⟩; have HB6 := Lib.hid (below_then' HB5.out hb); clear hb)
          | (go_at_call 10; (with_reducible refine (HEX.out _ (below_then' H1W.out HB6.out)).mono ?_); rintro e w7 ⟨rfl, hb⟩; have HB7 := Lib.hid (below_then' HB6.out hb); clear hb)
          | (go_at_call 9; (with_reducible refine (HW.out _ (below_then' HXW.out HB7.out)).mono ?_); rintro e w8 ⟨rfl, hb⟩; have HB8 := Lib.hid (below_then' HB7.out hb); clear hb))
        exact leave (n₀ := w.heap.size) ds W.heap.size _ (by have := HXW.out.size; have := HB8.out.size; omega) (HCL.out.later HB8.out) (fun W' hb' => ⟨_, results_tmp rfl _ _ _, rfl, (below_then' HXW.out HB8.out).trans hb'⟩)
theorem call_calls (f s : ByteArray) (stop : Int) {m : Int} {ev : Value} (w : World) (hv : Vars w.heap.size w m ev) (hkd : KindsAt w) (hU : U8 w) : Calls Tryz.prog 5 #[.string f, .string s, .int .i64 stop] w fun e w' => e = .returned (.bool true) ∧ Below w.heap.size w w' := by
  have hx : Below w.heap.size w (box0 w stop) := (Below.refl _ w).alloc (Nat.le_refl _) _
  have hW := worksAt hv hU
  rcases both_cases f (box0 w stop) (hv.on hx) (hkd.on hx) with h | ⟨D, _, h⟩
  · exact call_none f s stop w h hW
  · by_cases hl : (4096 : Int) < s.size
    · exact call_long f s stop D w h hW hl
    · exact call_main f s stop D w h hW hU (by omega)
end Go.Proofs.YtfmcadobpgpajaaGreatDoor.Cl
