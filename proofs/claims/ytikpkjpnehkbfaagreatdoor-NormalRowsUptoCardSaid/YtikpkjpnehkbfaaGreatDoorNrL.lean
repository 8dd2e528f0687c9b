/- The reference's Parse: the walk; The errors of a file of properties: their numbers are those of the package api, their lines begin with 1; The reference's Text of chapter 7; read: the walks. -/
import Derived.Test.YtikpkjpnehkbfaaGreatDoorNrI
import Derived.Test.YtikpkjpnehkbfaaGreatDoorNrA
import Derived.Test.YtikpkjpnehkbfaaGreatDoorNrK
import Derived.Test.YtikpkjpnehkbfaaGreatDoorNrG
import Derived.Test.YtikpkjpnehkbfaaGreatDoorNrBParse
set_option linter.unusedSimpArgs false
set_option linter.unusedVariables false
namespace Go.Proofs.YtikpkjpnehkbfaaGreatDoor.Rf
open Go Go.RowKit Go.Shelf Go.Proofs.YtikpkjpnehkbfaaGreatDoor.Sp Go.Proofs.YtikpkjpnehkbfaaGreatDoor.Pr Go.Proofs.YtikpkjpnehkbfaaGreatDoor.Rowl
def RParseOut (o : Except (Int × Option Int) PD) (w : World) (e : Ending) (w' : World) : Prop := Below w.heap.size w w' ∧ match o with
  | .error (k, p) => e = .returned (.tuple #[.pointer none, .agg #[.int .i64 k, .int .i64 (p.getD 0)]])
  | .ok D => ∃ q st, e = .returned (.tuple #[.pointer (some ⟨q, 0, none⟩), .agg #[.int .i64 0, .int .i64 0]]) ∧ RefAt q w' st ∧ st.d = D ∧ w.heap.size ≤ q
theorem OwnStrs.cells {n₀ : Nat} {W : World} {v : Value} {l : List ByteArray} (h : OwnStrs n₀ W v l) (hl : 0 < l.length) : ∃ g c, v = .slice (some ⟨g, 0, none⟩) l.length c ∧ n₀ ≤ g ∧ g < W.heap.size ∧ ∀ i s, l[i]? = some s → W.cell? ⟨g, 0 + i, none⟩ = some (.string s) := by
  obtain ⟨g, c, rfl, hg, hlt, hc, hm⟩ := YtikpkjpnehkbfaaGreatDoor.Rowl.own_some h hl
  refine ⟨g, c, rfl, hg, hlt, fun i x hi => ?_⟩
  have := World.ownsRow.cells h (g := g) rfl i (.string x) (by unfold encS; rw [List.getElem?_map, hi]; rfl)
  rw [show ((⟨g, 0, none⟩ : Addr).add i) = ⟨g, 0 + i, none⟩ by (unfold Addr.add; split <;> simp_all)] at this
  exact this
theorem RefAt.lined {q : Nat} {W : World} {st : St} (h : RefAt q W st) : ∃ A c, W.cell? ⟨q, 3, none⟩ = some (.slice A st.d.decomps.length c) ∧ st.d.decomps.length ≤ maxLen ∧ ∀ (j : Nat) (p : Int × List Int), st.d.decomps[j]? = some p → ∃ g, A = some ⟨g, 0, none⟩ ∧ ∃ ta tn tc k, W.cell? ⟨g, j * 3, none⟩ = some (.int .i64 p.1) ∧ W.cell? ⟨g, j * 3 + 1, none⟩ = some (.slice ta tn tc) ∧ W.cell? ⟨g, j * 3 + 2, none⟩ = some (.int .i64 k) ∧ st.lines[j]? = some (p.1, k) := by
  obtain ⟨⟨n₀, v, xs, n, h1, h2⟩, hok, h3⟩ := h
  obtain ⟨A, c, e, hc⟩ := line_cells (h1.own 3 (by decide)) h2.d.1 h2.d.2
  have hl := own_len (h1.own 3 (by decide))
  rw [h2.d.2] at hl
  refine ⟨A, c, by rw [cell_of_row W q 3 _ _ (0, 0) h1.hp, ← e]; rfl, hl, fun j p hp => ?_⟩
  obtain ⟨g, e1, tv, k, a1, a2, a3, a4, a5⟩ := hc j p hp
  obtain ⟨tb, tf, tc, _, rfl, _⟩ := a5
  refine ⟨g, e1, _, _, _, k, a1, a2, a3, ?_⟩
  have k1 : (st.lines.map (·.1))[j]? = some p.1 := by rw [hok.keys, List.getElem?_map, hp]; rfl
  rw [List.getElem?_map] at a4 k1
  cases hl : st.lines[j]? with
  | none => rw [hl] at a4; cases a4
  | some x =>
    rw [hl] at a4 k1
    simp only [Option.map_some, Option.some.injEq] at a4 k1
    rw [← a4, ← k1]
def PI1 (L : List Bytes) (q n₀ : Nat) (w : World) (i : Nat) (wr : World) : Prop := ∃ st, doW {} L 1 = doW st (L.drop i) ((i : Int) + 1) ∧ RefSt q n₀ wr st ∧ StOk st ∧ Small st i ∧ Below n₀ w wr
theorem ref_start (w : World) : RefSt w.heap.size w.heap.size (w.alloc (.cells #[.slice none 0 0, .slice none 0 0, .slice none 0 0, .slice none 0 0] 141)) {} := by
  refine ⟨fun _ => .slice none 0 0, fun _ => [], fun _ => 0, ⟨heap_alloc_new w _, Nat.le_refl _, fun i _ => ⟨rfl, .inl ⟨rfl, rfl⟩⟩, fun i j _ _ _ g hg => by cases hg⟩, ⟨rfl, rfl⟩, ⟨rfl, rfl⟩, ⟨⟨[], rfl⟩, rfl⟩, ⟨rfl, rfl⟩⟩
theorem PI1.start (L : List Bytes) (w : World) : PI1 L w.heap.size w.heap.size w 0 (w.alloc (.cells #[.slice none 0 0, .slice none 0 0, .slice none 0 0, .slice none 0 0] 141)) :=
  ⟨{}, rfl, ref_start w, StOk.empty, ⟨Nat.le_refl _, Nat.le_refl _, Nat.le_refl _, Nat.le_refl _⟩, (Below.refl _ w).alloc (Nat.le_refl _) _⟩
theorem words_none (x : ByteArray) (hx : x.size ≤ 1048576) (w : World) (h : wordsH x.data.toList = []) : Calls Tryz.prog 88 #[.string x] w fun e w' => (∃ A c, e = .returned (.slice A 0 c)) ∧ Below w.heap.size w w' := by
  refine (words_calls x hx w).mono ?_
  rintro e w' ⟨⟨v, ws, rfl, ho, hwl, _, _⟩, hb⟩
  have hw : wl ws = [] := hwl.trans h
  have hz : ws = [] := by
    cases ws with
    | nil => rfl
    | cons a l => simp [wl] at hw
  subst hz
  obtain ⟨A, c, rfl⟩ := ho.slice
  exact ⟨⟨A, c, rfl⟩, hb⟩
theorem words_some (x : ByteArray) (hx : x.size ≤ 1048576) (w : World) {x0 : Bytes} (h : (wordsH x.data.toList)[0]? = some x0) : Calls Tryz.prog 88 #[.string x] w fun e w' => (∃ g c ws s0, e = .returned (.slice (some ⟨g, 0, none⟩) ws.length c) ∧ wl ws = wordsH x.data.toList ∧ ws[0]? = some s0 ∧ s0.data.toList = x0 ∧ (∀ i s, ws[i]? = some s → w'.cell? ⟨g, 0 + i, none⟩ = some (.string s)) ∧ (∀ y ∈ ws, y.size ≤ 1048576) ∧ 0 < ws.length) ∧ Below w.heap.size w w' := by
  refine (words_calls x hx w).mono ?_
  rintro e w' ⟨⟨v, ws, rfl, ho, hwl, hsz, _⟩, hb⟩
  have hw : wl ws = wordsH x.data.toList := hwl
  have hz : ∃ s0, ws[0]? = some s0 ∧ s0.data.toList = x0 := by
    rw [← hw] at h
    cases ws with
    | nil => simp [wl] at h
    | cons a l => exact ⟨a, rfl, by simpa [wl] using h⟩
  obtain ⟨s0, h0, e0⟩ := hz
  have hl : 0 < ws.length := (List.getElem?_eq_some_iff.1 h0).1
  obtain ⟨g, c, rfl, _, _, hc⟩ := ho.cells hl
  exact ⟨⟨g, c, ws, s0, rfl, hw, h0, e0, hc, fun y hy => by have := (hsz y hy).1; omega, hl⟩, hb⟩
set_option maxHeartbeats 8000000 in
set_option maxRecDepth 100000 in
theorem rparse_big (s : ByteArray) (w : World) (h : 1048576 < s.size) : Calls Tryz.prog 51 #[.string s] w fun e w' => RParseOut (parse s.data.toList) w e w' := by
  have hp : Hid (parse s.data.toList = .error (5, none)) := Lib.hid (parse_much _ (.inl (by rw [← Lib.size_eq]; exact h)))
  have hi : (1048576 : Int) < (s.size : Int) := by omega
  go_enter Tryz.func51, Tryz.ntmps51
  go_wp2
  have hE := Two.start w (.int .i64 5) (.int .i64 0) 74
  have e0 := hE.c0
  have e1 := hE.c1
  rw [hp.out]
  exact bodyPost_ret (v := .tuple #[.pointer none, .agg #[.int .i64 5, .int .i64 0]]) (by simp [results, Tryz.results51, go_sem, e0, e1]) rfl ⟨hE.below, rfl⟩
set_option maxHeartbeats 8000000 in
set_option maxRecDepth 100000 in
theorem rparse_many (s : ByteArray) (w : World) (h : s.size ≤ 1048576) (hmany : 65536 < (lg [] s.data.toList).length) : Calls Tryz.prog 51 #[.string s] w fun e w' => RParseOut (parse s.data.toList) w e w' := by
  have hi : ¬ (1048576 : Int) < (s.size : Int) := by omega
  have HL := Lib.hid (lines_calls s h)
  have hp : Hid (parse s.data.toList = .error (5, none)) := Lib.hid (parse_much _ (.inr hmany))
  have HM := Lib.hid hmany
  clear hmany
  go_enter Tryz.func51, Tryz.ntmps51
  go_wp2_with (go_at_call 87; go_must (refine (HL.out _).mono ?_; rintro e w5 ⟨⟨v, ws, rfl, ho, hwl, _, _⟩, hb5⟩; obtain ⟨Av, Cv, rfl⟩ := ho.slice; have hgt : (65536 : Int) < (ws.length : Int) := (by have := HM.out; rw [← hwl, wl_length] at this; omega); have hK := (Two.start w (.int .i64 0) (.int .i64 0) 74).later hb5; have hc0 := hK.c0; have hc1 := hK.c1; have hf0 := hK.f0; have hf1 := hK.f1; clear ho hwl hb5))
  have hE := hK.put (.int .i64 5) (.int .i64 0)
  have e0 := hE.c0
  have e1 := hE.c1
  rw [hp.out]
  exact bodyPost_ret (v := .tuple #[.pointer none, .agg #[.int .i64 5, .int .i64 0]]) (by simp [results, Tryz.results51, go_sem, e0, e1]) rfl ⟨hE.below, rfl⟩
theorem PI1.next {L : List Bytes} {q n₀ : Nat} {w5 w2 w4 : World} {i : Nat} {st st' : St} (hd : doW {} L 1 = doW st (L.drop i) ((i : Int) + 1)) {x : Bytes} (hx : L[i]? = some x) (hb : Below n₀ w5 w2) (ho : doLine st (wordsH x) ((i : Int) + 1) = .ok st') (hok : StOk st) (hsm : Small st i) (hst : RefSt q n₀ w4 st') (hfr : Below n₀ w2 w4) : PI1 L q n₀ w5 (i + 1) w4 := by
  refine ⟨st', ?_, hst, doLine_ok hok ho, doLine_small hsm ho, hb.trans hfr⟩
  rw [hd, doW_cons hx, ho]
  show doW st' _ _ = doW st' _ _
  congr 1
theorem PI1.err {L : List Bytes} {i : Nat} {st : St} (hd : doW {} L 1 = doW st (L.drop i) ((i : Int) + 1)) {x : Bytes} (hx : L[i]? = some x) {k : Int} (ho : doLine st (wordsH x) ((i : Int) + 1) = .error k) : doW {} L 1 = .error (k, (i : Int) + 1) := by
  rw [hd, doW_cons hx, ho]
def FX (X : Nat) (W : World) : Prop := ∃ cs, W.heap[X]? = some (.cells cs 74 (0, 0))
theorem FX.later {X : Nat} {W W' : World} (h : FX X W) (hb : Below W.heap.size W W') : FX X W' := by
  obtain ⟨cs, h⟩ := h
  exact ⟨cs, (hb.block X (lt_of_block h)).trans h⟩
theorem FX.set {X i : Nat} {W : World} (h : FX X W) (u : Value) : FX X (W.setCell ⟨X, i, none⟩ u) := by
  obtain ⟨cs, h⟩ := h
  exact ⟨_, heap_setCell_same W X i _ _ u h⟩
theorem RefAt.set {q X i : Nat} {W : World} {st : St} (h : RefAt q W st) (hX : FX X W) (u : Value) : RefAt q (W.setCell ⟨X, i, none⟩ u) st := by
  obtain ⟨⟨n₀, v, xs, n, h1, h2⟩, h3⟩ := h
  obtain ⟨cs, hX⟩ := hX
  refine ⟨⟨n₀, v, xs, n, h1.grown (setCell_grown W ⟨X, i, none⟩ u) (fun k e => ?_), h2.map fun tv ps hp => ?_⟩, h3⟩
  · injection e with e
    subst e
    refine ⟨fun e => ?_, fun j hj => own_ne (h1.own j hj) hX (fun cur e => ?_)⟩
    · have e : X = q := e
      subst e
      exact absurd (cells_type hX h1.hp) (by decide)
    · injection e with _ e _
      rcases (ty_ne j).2.2.2 with e2 | e2
      · rw [e2] at e; exact absurd e (by unfold rowT; decide)
      · rw [e2] at e; exact absurd e (by unfold lineT; decide)
  · obtain ⟨b, off, cap, cs2, e, hb, r⟩ := hp
    refine ⟨b, off, cap, cs2, e, ?_, r⟩
    rw [Below.heap_setCell _ _ _ _ (fun e => ?_)]
    · exact hb
    · have e : b = X := e
      subst e
      exact absurd (cells_type hX hb) (by decide)
theorem RefAt.put {q X : Nat} {W : World} {st : St} (h : RefAt q W st) (hX : FX X W) (u v : Value) : RefAt q ((W.setCell ⟨X, 0, none⟩ u).setCell ⟨X, 1, none⟩ v) st := (h.set hX u).set (hX.set u) v
theorem Two.put0 {w W : World} {v0 v1 : Value} (h : Two w W v0 v1) (a : Value) : Two w (W.setCell ⟨w.heap.size, 0, none⟩ a) a v1 where
  below := h.below.setCell (p := ⟨w.heap.size, 0, none⟩) (Nat.le_refl _) _
  lt := by simpa using h.lt
  c0 := World.cell?_setCell_same' _ _ _ (by rw [h.c0]; rfl)
  c1 := by rw [World.cell?_setCell_other _ _ _ _ (by simp)]; exact h.c1
  f0 := by rw [World.frozen?_setCell]; exact h.f0
  f1 := by rw [World.frozen?_setCell]; exact h.f1
theorem KS.far {X Y i : Nat} {W : World} {ks : List Bool} (h : KS X W ks) (hne : X ≠ Y) (u : Value) : KS X (W.setCell ⟨Y, i, none⟩ u) ks := by
  unfold KS
  rw [Below.heap_setCell _ _ _ _ hne]
  exact h
theorem KS.later {X : Nat} {W W' : World} {ks : List Bool} (h : KS X W ks) (hb : Below W.heap.size W W') : KS X W' ks := (hb.block X (lt_of_block h)).trans h
def AccR (st : St) (i : Nat) (lv no ln : Int) : Prop := (accB st i = none ∧ lv = -1) ∨ (accB st i = some (lv, no, ln) ∧ 0 ≤ lv)
theorem AccR.start (st : St) : AccR st 0 (-1) 0 0 := .inl ⟨rfl, rfl⟩
theorem AccR.good {st : St} {i : Nat} {lv no ln : Int} (h : AccR st i lv no ln) {p : Int × Int} (hp : st.lines[i]? = some p) (hb : badOf st.d p.1 = none) : AccR st (i + 1) lv no ln := by
  have e : accB st (i + 1) = accB st i := by rw [accB_step hp]; unfold badF; rw [hb]
  unfold AccR
  rw [e]
  exact h
theorem AccR.keep {st : St} {i : Nat} {lv no ln : Int} (h : AccR st i lv no ln) {p : Int × Int} (hp : st.lines[i]? = some p) {e : Int} (hb : badOf st.d p.1 = some e) (h0 : 0 ≤ lv) (hlt : lv < p.1) : AccR st (i + 1) lv no ln := by
  rcases h with ⟨h1, h2⟩ | ⟨h1, h2⟩
  · omega
  · refine .inr ⟨?_, h2⟩
    rw [accB_step hp]
    unfold badF
    rw [hb, h1]
    simp only
    rw [if_neg (by omega)]
theorem AccR.new {st : St} {i : Nat} {lv no ln : Int} (h : AccR st i lv no ln) {p : Int × Int} (hp : st.lines[i]? = some p) {e : Int} (hb : badOf st.d p.1 = some e) (h0 : 0 ≤ p.1) (hlt : lv < 0 ∨ p.1 < lv) : AccR st (i + 1) p.1 e p.2 := by
  refine .inr ⟨?_, h0⟩
  rw [accB_step hp]
  unfold badF
  rw [hb]
  rcases h with ⟨h1, h2⟩ | ⟨h1, h2⟩
  · rw [h1]
  · rw [h1]
    simp only
    rw [if_pos (by omega)]
theorem AccR.cases {st : St} (hok : StOk st) {i : Nat} {lv no ln : Int} (h : AccR st i lv no ln) {p : Int × Int} (hp : st.lines[i]? = some p) : lv < 0 ∨ (0 ≤ lv ∧ lv < p.1) ∨ (0 ≤ lv ∧ p.1 < lv) := by
  rcases h with ⟨h1, h2⟩ | ⟨h1, h2⟩
  · left; omega
  · have := (accB_new hok hp h1).1
    have this : lv ≠ p.1 := this
    omega
set_option maxHeartbeats 16000000 in
set_option maxRecDepth 100000 in
theorem rparse_main (s : ByteArray) (w : World) (h : s.size ≤ 1048576) (KT : KindsAt w) (hmany : (lg [] s.data.toList).length ≤ 65536) : Calls Tryz.prog 51 #[.string s] w fun e w' => RParseOut (parse s.data.toList) w e w' := by
  have HKT := Lib.hid KT
  have hi : ¬ (1048576 : Int) < (s.size : Int) := by omega
  have HL := Lib.hid (lines_calls s h)
  have HP := Lib.hid (parse_lg s.data.toList (by rw [← Lib.size_eq]; exact h) hmany)
  have HM := Lib.hid hmany
  have HS : Hid (s.size ≤ 1048576) := Lib.hid h
  clear KT hmany
  go_enter Tryz.func51, Tryz.ntmps51
  go_wp2_with (go_at_call 87; go_must (refine (HL.out _).mono ?_; rintro e w5 ⟨⟨v, ws, rfl, ho, hwl, hsz, _⟩, hb5⟩; obtain ⟨Av, Cv, rfl⟩ := ho.slice; have hgt : ¬ (65536 : Int) < (ws.length : Int) := (by have := HM.out; rw [← hwl, wl_length] at this; omega); have HK5 := Lib.hid ((Two.start w (.int .i64 0) (.int .i64 0) 74).later hb5); have HO5 := Lib.hid ho; have HW5 := Lib.hid hwl; have HFX5 : Hid (FX w.heap.size w5) := Lib.hid (FX.later (W := w.alloc (.cells #[.int .i64 0, .int .i64 0] 74)) ⟨_, heap_alloc_new w _⟩ hb5); have HZ5 := Lib.hid hsz; clear ho hwl hb5 hsz HL))
  go_loopw [6] (fun vi wr => ∃ i : Nat, vi = .int .i64 i ∧ i ≤ ws.length ∧ Hid (PI1 (lg [] s.data.toList) w5.heap.size w5.heap.size w5 i wr)) (fun vi _ => ws.length - (intOf vi).toNat)
  case atStart => exact ⟨0, rfl, by omega, Lib.hid (PI1.start _ w5)⟩
  case round =>
    obtain ⟨i, rfl, hi2, HI⟩ := hrel
    rename World => w2
    obtain ⟨st, hd, hst, hok, hsm, hb2⟩ := HI.out
    have HD := Lib.hid hd
    have HST := Lib.hid hst
    have HOK := Lib.hid hok
    have HSM := Lib.hid hsm
    have HB2 := Lib.hid hb2
    have HK2 := Lib.hid (HK5.out.later hb2)
    clear hd hst hok hsm hb2 HI
    by_cases hlt : i < ws.length
    · obtain ⟨x, hx⟩ : ∃ x, ws[i]? = some x := ⟨_, List.getElem?_eq_getElem hlt⟩
      obtain ⟨g, c, e, hg1, hg2, hcell⟩ := HO5.out.cells (by omega)
      obtain ⟨rfl⟩ : Av = some ⟨g, 0, none⟩ := by injection e
      have hx2 : w2.cell? ⟨g, i, none⟩ = some (.string x) := by
        have := cell_later HB2.out (hcell i x hx)
        simpa using this
      have HX : Hid ((lg [] s.data.toList)[i]? = some x.data.toList) := Lib.hid (by rw [← HW5.out]; exact wl_at hx)
      have hxs : x.size ≤ 1048576 := Nat.le_trans (HZ5.out x (List.mem_of_getElem? hx)) HS.out
      have hn₀ : w5.heap.size ≤ w2.heap.size := HB2.out.size
      have f1 : (0 : Int) ≤ (i : Int) := by omega
      have f2 : (i : Int) < (ws.length : Int) := by omega
      clear e hcell hg1 hg2 hx
      by_cases hw0 : wordsH x.data.toList = []
      · have HWD := Lib.hid (words_none x hxs w2 hw0)
        have HO : Hid (doLine st (wordsH x.data.toList) ((i : Int) + 1) = .ok st) := Lib.hid (by rw [hw0]; rfl)
        clear hw0
        go_wp2_with (go_at_call 88; go_must (refine HWD.out.mono ?_; rintro e w3 ⟨⟨A3, C3, rfl⟩, hb3⟩; have HN := Lib.hid (PI1.next HD.out HX.out HB2.out HO.out HOK.out HSM.out (HST.out.on hb3) (hb3.mono hn₀)); clear hb3))
        go_roundw
        case rel => exact ⟨i + 1, by go_num, by omega, HN⟩
        case measure => simp [intOf]; omega
      · obtain ⟨x0, hx0⟩ : ∃ x0, (wordsH x.data.toList)[0]? = some x0 := ⟨_, List.getElem?_eq_getElem (List.length_pos_iff.2 hw0)⟩
        have HWD := Lib.hid (words_some x hxs w2 hx0)
        have HNM := Lib.hid (doLine_name (st := st) (line := (i : Int) + 1) hx0)
        have HSMA := Lib.hid (HSM.out.all (show i ≤ 1048576 by have h1 := HM.out; have h2 : ws.length = (lg [] s.data.toList).length := (by rw [← HW5.out, wl_length]); omega))
        clear hw0 hx0
        have hcase : (∃ isK : Bool, x0 = if isK then nameKind else nameClass) ∨ (∃ isF : Bool, x0 = if isF then nameFold else nameDecomp) ∨ (x0 ≠ nameClass ∧ x0 ≠ nameKind ∧ x0 ≠ nameFold ∧ x0 ≠ nameDecomp) := by
          by_cases h1 : x0 = nameClass
          · exact .inl ⟨false, h1⟩
          by_cases h2 : x0 = nameKind
          · exact .inl ⟨true, h2⟩
          by_cases h3 : x0 = nameFold
          · exact .inr (.inl ⟨true, h3⟩)
          by_cases h4 : x0 = nameDecomp
          · exact .inr (.inl ⟨false, h4⟩)
          exact .inr (.inr ⟨h1, h2, h3, h4⟩)
        rcases hcase with ⟨isK, hx0⟩ | ⟨isF, hx0⟩ | ⟨n1, n2, n3, n4⟩
        · subst hx0
          cases isK
          · cases ho : doLine st (wordsH x.data.toList) ((i : Int) + 1) with
            | ok st' =>
              have HO := Lib.hid ho
              clear ho
              go_wp2_with (first
                | (go_at_call 88; go_must (refine HWD.out.mono ?_; rintro e w3 ⟨⟨g3, c3, ws3, s0, rfl, hwl3, hs0, he0, hc3, hz3, hl3⟩, hb3⟩; have c0 : w3.cell? ⟨g3, 0, none⟩ = some (.string s0) := hc3 0 s0 hs0; have b0 : (s0.toList == [99, 108, 97, 115, 115]) = true := (by rw [Lib.toList_data, he0]; rfl); have b1 : (s0.toList == [107, 105, 110, 100]) = false := (by rw [Lib.toList_data, he0]; rfl); have hb0 : ((ws3.length : Int) == 0) = false := beq_eq_false_iff_ne.2 (by omega); have f3 : (0 : Int) < (ws3.length : Int) := (by omega); have HR := Lib.hid (ranged_all w5.heap.size w5.heap.size st w3 (HST.out.on hb3) (Nat.le_trans hn₀ hb3.size) ⟨HSMA.out.1, HSMA.out.2.1⟩ ((HKT.out.on HK2.out.below).on hb3) ws3 hz3 g3 0 c3 hc3 s0 hs0 false he0 ((i : Int) + 1)); rw [hwl3] at HR; have HB3 := Lib.hid hb3; clear hwl3 hs0 hc3 hz3 hb3 he0))
                | (go_at_call 89; go_must (refine HR.out.mono ?_; intro e w4 ho4; rw [HO.out] at ho4; obtain ⟨rfl, hst4, hfr⟩ := ho4; have HN := Lib.hid (PI1.next HD.out HX.out HB2.out HO.out HOK.out HSM.out hst4 ((HB3.out.mono hn₀).trans hfr.low)); clear hst4 hfr)))
              go_roundw
              case rel => exact ⟨i + 1, by go_num, by omega, HN⟩
              case measure => simp [intOf]; omega
            | error k =>
              have HO := Lib.hid ho
              have HPE : Hid (parse s.data.toList = .error (k, some ((i : Int) + 1))) := Lib.hid (by rw [HP.out, PI1.err HD.out HX.out ho])
              clear ho
              go_wp2_with (first
                | (go_at_call 88; go_must (refine HWD.out.mono ?_; rintro e w3 ⟨⟨g3, c3, ws3, s0, rfl, hwl3, hs0, he0, hc3, hz3, hl3⟩, hb3⟩; have c0 : w3.cell? ⟨g3, 0, none⟩ = some (.string s0) := hc3 0 s0 hs0; have b0 : (s0.toList == [99, 108, 97, 115, 115]) = true := (by rw [Lib.toList_data, he0]; rfl); have b1 : (s0.toList == [107, 105, 110, 100]) = false := (by rw [Lib.toList_data, he0]; rfl); have hb0 : ((ws3.length : Int) == 0) = false := beq_eq_false_iff_ne.2 (by omega); have f3 : (0 : Int) < (ws3.length : Int) := (by omega); have HR := Lib.hid (ranged_all w5.heap.size w5.heap.size st w3 (HST.out.on hb3) (Nat.le_trans hn₀ hb3.size) ⟨HSMA.out.1, HSMA.out.2.1⟩ ((HKT.out.on HK2.out.below).on hb3) ws3 hz3 g3 0 c3 hc3 s0 hs0 false he0 ((i : Int) + 1)); rw [hwl3] at HR; have HB3 := Lib.hid hb3; clear hwl3 hs0 hc3 hz3 hb3 he0))
                | (go_at_call 89; go_must (refine HR.out.mono ?_; intro e w4 ho4; rw [HO.out] at ho4; obtain ⟨rfl, hk0, hb4⟩ := ho4; have hkn : (k != 0) = true := bne_iff_ne.2 (by omega); have hK := (HK2.out.later HB3.out).later hb4; have hc0 := hK.c0; have hc1 := hK.c1; have hf0 := hK.f0; have hf1 := hK.f1; clear hb4)))
              have hE := hK.put (.int .i64 k) (.int .i64 ((i : Int) + 1))
              have e0 := hE.c0
              have e1 := hE.c1
              rw [HPE.out]
              exact bodyPost_ret (v := .tuple #[.pointer none, .agg #[.int .i64 k, .int .i64 ((i : Int) + 1)]]) (by simp [results, Tryz.results51, go_sem, e0, e1]) rfl ⟨hE.below, rfl⟩
          · cases ho : doLine st (wordsH x.data.toList) ((i : Int) + 1) with
            | ok st' =>
              have HO := Lib.hid ho
              clear ho
              go_wp2_with (first
                | (go_at_call 88; go_must (refine HWD.out.mono ?_; rintro e w3 ⟨⟨g3, c3, ws3, s0, rfl, hwl3, hs0, he0, hc3, hz3, hl3⟩, hb3⟩; have c0 : w3.cell? ⟨g3, 0, none⟩ = some (.string s0) := hc3 0 s0 hs0; have b0 : (s0.toList == [99, 108, 97, 115, 115]) = false := (by rw [Lib.toList_data, he0]; rfl); have b1 : (s0.toList == [107, 105, 110, 100]) = true := (by rw [Lib.toList_data, he0]; rfl); have hb0 : ((ws3.length : Int) == 0) = false := beq_eq_false_iff_ne.2 (by omega); have f3 : (0 : Int) < (ws3.length : Int) := (by omega); have HR := Lib.hid (ranged_all w5.heap.size w5.heap.size st w3 (HST.out.on hb3) (Nat.le_trans hn₀ hb3.size) ⟨HSMA.out.1, HSMA.out.2.1⟩ ((HKT.out.on HK2.out.below).on hb3) ws3 hz3 g3 0 c3 hc3 s0 hs0 true he0 ((i : Int) + 1)); rw [hwl3] at HR; have HB3 := Lib.hid hb3; clear hwl3 hs0 hc3 hz3 hb3 he0))
                | (go_at_call 89; go_must (refine HR.out.mono ?_; intro e w4 ho4; rw [HO.out] at ho4; obtain ⟨rfl, hst4, hfr⟩ := ho4; have HN := Lib.hid (PI1.next HD.out HX.out HB2.out HO.out HOK.out HSM.out hst4 ((HB3.out.mono hn₀).trans hfr.low)); clear hst4 hfr)))
              go_roundw
              case rel => exact ⟨i + 1, by go_num, by omega, HN⟩
              case measure => simp [intOf]; omega
            | error k =>
              have HO := Lib.hid ho
              have HPE : Hid (parse s.data.toList = .error (k, some ((i : Int) + 1))) := Lib.hid (by rw [HP.out, PI1.err HD.out HX.out ho])
              clear ho
              go_wp2_with (first
                | (go_at_call 88; go_must (refine HWD.out.mono ?_; rintro e w3 ⟨⟨g3, c3, ws3, s0, rfl, hwl3, hs0, he0, hc3, hz3, hl3⟩, hb3⟩; have c0 : w3.cell? ⟨g3, 0, none⟩ = some (.string s0) := hc3 0 s0 hs0; have b0 : (s0.toList == [99, 108, 97, 115, 115]) = false := (by rw [Lib.toList_data, he0]; rfl); have b1 : (s0.toList == [107, 105, 110, 100]) = true := (by rw [Lib.toList_data, he0]; rfl); have hb0 : ((ws3.length : Int) == 0) = false := beq_eq_false_iff_ne.2 (by omega); have f3 : (0 : Int) < (ws3.length : Int) := (by omega); have HR := Lib.hid (ranged_all w5.heap.size w5.heap.size st w3 (HST.out.on hb3) (Nat.le_trans hn₀ hb3.size) ⟨HSMA.out.1, HSMA.out.2.1⟩ ((HKT.out.on HK2.out.below).on hb3) ws3 hz3 g3 0 c3 hc3 s0 hs0 true he0 ((i : Int) + 1)); rw [hwl3] at HR; have HB3 := Lib.hid hb3; clear hwl3 hs0 hc3 hz3 hb3 he0))
                | (go_at_call 89; go_must (refine HR.out.mono ?_; intro e w4 ho4; rw [HO.out] at ho4; obtain ⟨rfl, hk0, hb4⟩ := ho4; have hkn : (k != 0) = true := bne_iff_ne.2 (by omega); have hK := (HK2.out.later HB3.out).later hb4; have hc0 := hK.c0; have hc1 := hK.c1; have hf0 := hK.f0; have hf1 := hK.f1; clear hb4)))
              have hE := hK.put (.int .i64 k) (.int .i64 ((i : Int) + 1))
              have e0 := hE.c0
              have e1 := hE.c1
              rw [HPE.out]
              exact bodyPost_ret (v := .tuple #[.pointer none, .agg #[.int .i64 k, .int .i64 ((i : Int) + 1)]]) (by simp [results, Tryz.results51, go_sem, e0, e1]) rfl ⟨hE.below, rfl⟩
        · subst hx0
          cases isF
          · cases ho : doLine st (wordsH x.data.toList) ((i : Int) + 1) with
            | ok st' =>
              have HO := Lib.hid ho
              clear ho
              go_wp2_with (first
                | (go_at_call 88; go_must (refine HWD.out.mono ?_; rintro e w3 ⟨⟨g3, c3, ws3, s0, rfl, hwl3, hs0, he0, hc3, hz3, hl3⟩, hb3⟩; have c0 : w3.cell? ⟨g3, 0, none⟩ = some (.string s0) := hc3 0 s0 hs0; have b0 : (s0.toList == [99, 108, 97, 115, 115]) = false := (by rw [Lib.toList_data, he0]; rfl); have b1 : (s0.toList == [107, 105, 110, 100]) = false := (by rw [Lib.toList_data, he0]; rfl); have b2 : (s0.toList == [102, 111, 108, 100]) = false := (by rw [Lib.toList_data, he0]; rfl); have b3 : (s0.toList == [100, 101, 99, 111, 109, 112]) = true := (by rw [Lib.toList_data, he0]; rfl); have hb0 : ((ws3.length : Int) == 0) = false := beq_eq_false_iff_ne.2 (by omega); have f3 : (0 : Int) < (ws3.length : Int) := (by omega); have HR := Lib.hid (single_all w5.heap.size w5.heap.size st w3 (HST.out.on hb3) (Nat.le_trans hn₀ hb3.size) ⟨HSMA.out.2.2.1, HSMA.out.2.2.2⟩ ws3 hz3 g3 0 c3 hc3 s0 hs0 false he0 ((i : Int) + 1)); rw [hwl3] at HR; have HB3 := Lib.hid hb3; clear hwl3 hs0 hc3 hz3 hb3 he0))
                | (go_at_call 90; go_must (refine HR.out.mono ?_; intro e w4 ho4; rw [HO.out] at ho4; obtain ⟨rfl, hst4, hfr⟩ := ho4; have HN := Lib.hid (PI1.next HD.out HX.out HB2.out HO.out HOK.out HSM.out hst4 ((HB3.out.mono hn₀).trans hfr.low)); clear hst4 hfr)))
              go_roundw
              case rel => exact ⟨i + 1, by go_num, by omega, HN⟩
              case measure => simp [intOf]; omega
            | error k =>
              have HO := Lib.hid ho
              have HPE : Hid (parse s.data.toList = .error (k, some ((i : Int) + 1))) := Lib.hid (by rw [HP.out, PI1.err HD.out HX.out ho])
              clear ho
              go_wp2_with (first
                | (go_at_call 88; go_must (refine HWD.out.mono ?_; rintro e w3 ⟨⟨g3, c3, ws3, s0, rfl, hwl3, hs0, he0, hc3, hz3, hl3⟩, hb3⟩; have c0 : w3.cell? ⟨g3, 0, none⟩ = some (.string s0) := hc3 0 s0 hs0; have b0 : (s0.toList == [99, 108, 97, 115, 115]) = false := (by rw [Lib.toList_data, he0]; rfl); have b1 : (s0.toList == [107, 105, 110, 100]) = false := (by rw [Lib.toList_data, he0]; rfl); have b2 : (s0.toList == [102, 111, 108, 100]) = false := (by rw [Lib.toList_data, he0]; rfl); have b3 : (s0.toList == [100, 101, 99, 111, 109, 112]) = true := (by rw [Lib.toList_data, he0]; rfl); have hb0 : ((ws3.length : Int) == 0) = false := beq_eq_false_iff_ne.2 (by omega); have f3 : (0 : Int) < (ws3.length : Int) := (by omega); have HR := Lib.hid (single_all w5.heap.size w5.heap.size st w3 (HST.out.on hb3) (Nat.le_trans hn₀ hb3.size) ⟨HSMA.out.2.2.1, HSMA.out.2.2.2⟩ ws3 hz3 g3 0 c3 hc3 s0 hs0 false he0 ((i : Int) + 1)); rw [hwl3] at HR; have HB3 := Lib.hid hb3; clear hwl3 hs0 hc3 hz3 hb3 he0))
                | (go_at_call 90; go_must (refine HR.out.mono ?_; intro e w4 ho4; rw [HO.out] at ho4; obtain ⟨rfl, hk0, hb4⟩ := ho4; have hkn : (k != 0) = true := bne_iff_ne.2 (by omega); have hK := (HK2.out.later HB3.out).later hb4; have hc0 := hK.c0; have hc1 := hK.c1; have hf0 := hK.f0; have hf1 := hK.f1; clear hb4)))
              have hE := hK.put (.int .i64 k) (.int .i64 ((i : Int) + 1))
              have e0 := hE.c0
              have e1 := hE.c1
              rw [HPE.out]
              exact bodyPost_ret (v := .tuple #[.pointer none, .agg #[.int .i64 k, .int .i64 ((i : Int) + 1)]]) (by simp [results, Tryz.results51, go_sem, e0, e1]) rfl ⟨hE.below, rfl⟩
          · cases ho : doLine st (wordsH x.data.toList) ((i : Int) + 1) with
            | ok st' =>
              have HO := Lib.hid ho
              clear ho
              go_wp2_with (first
                | (go_at_call 88; go_must (refine HWD.out.mono ?_; rintro e w3 ⟨⟨g3, c3, ws3, s0, rfl, hwl3, hs0, he0, hc3, hz3, hl3⟩, hb3⟩; have c0 : w3.cell? ⟨g3, 0, none⟩ = some (.string s0) := hc3 0 s0 hs0; have b0 : (s0.toList == [99, 108, 97, 115, 115]) = false := (by rw [Lib.toList_data, he0]; rfl); have b1 : (s0.toList == [107, 105, 110, 100]) = false := (by rw [Lib.toList_data, he0]; rfl); have b2 : (s0.toList == [102, 111, 108, 100]) = true := (by rw [Lib.toList_data, he0]; rfl); have hb0 : ((ws3.length : Int) == 0) = false := beq_eq_false_iff_ne.2 (by omega); have f3 : (0 : Int) < (ws3.length : Int) := (by omega); have HR := Lib.hid (single_all w5.heap.size w5.heap.size st w3 (HST.out.on hb3) (Nat.le_trans hn₀ hb3.size) ⟨HSMA.out.2.2.1, HSMA.out.2.2.2⟩ ws3 hz3 g3 0 c3 hc3 s0 hs0 true he0 ((i : Int) + 1)); rw [hwl3] at HR; have HB3 := Lib.hid hb3; clear hwl3 hs0 hc3 hz3 hb3 he0))
                | (go_at_call 90; go_must (refine HR.out.mono ?_; intro e w4 ho4; rw [HO.out] at ho4; obtain ⟨rfl, hst4, hfr⟩ := ho4; have HN := Lib.hid (PI1.next HD.out HX.out HB2.out HO.out HOK.out HSM.out hst4 ((HB3.out.mono hn₀).trans hfr.low)); clear hst4 hfr)))
              go_roundw
              case rel => exact ⟨i + 1, by go_num, by omega, HN⟩
              case measure => simp [intOf]; omega
            | error k =>
              have HO := Lib.hid ho
              have HPE : Hid (parse s.data.toList = .error (k, some ((i : Int) + 1))) := Lib.hid (by rw [HP.out, PI1.err HD.out HX.out ho])
              clear ho
              go_wp2_with (first
                | (go_at_call 88; go_must (refine HWD.out.mono ?_; rintro e w3 ⟨⟨g3, c3, ws3, s0, rfl, hwl3, hs0, he0, hc3, hz3, hl3⟩, hb3⟩; have c0 : w3.cell? ⟨g3, 0, none⟩ = some (.string s0) := hc3 0 s0 hs0; have b0 : (s0.toList == [99, 108, 97, 115, 115]) = false := (by rw [Lib.toList_data, he0]; rfl); have b1 : (s0.toList == [107, 105, 110, 100]) = false := (by rw [Lib.toList_data, he0]; rfl); have b2 : (s0.toList == [102, 111, 108, 100]) = true := (by rw [Lib.toList_data, he0]; rfl); have hb0 : ((ws3.length : Int) == 0) = false := beq_eq_false_iff_ne.2 (by omega); have f3 : (0 : Int) < (ws3.length : Int) := (by omega); have HR := Lib.hid (single_all w5.heap.size w5.heap.size st w3 (HST.out.on hb3) (Nat.le_trans hn₀ hb3.size) ⟨HSMA.out.2.2.1, HSMA.out.2.2.2⟩ ws3 hz3 g3 0 c3 hc3 s0 hs0 true he0 ((i : Int) + 1)); rw [hwl3] at HR; have HB3 := Lib.hid hb3; clear hwl3 hs0 hc3 hz3 hb3 he0))
                | (go_at_call 90; go_must (refine HR.out.mono ?_; intro e w4 ho4; rw [HO.out] at ho4; obtain ⟨rfl, hk0, hb4⟩ := ho4; have hkn : (k != 0) = true := bne_iff_ne.2 (by omega); have hK := (HK2.out.later HB3.out).later hb4; have hc0 := hK.c0; have hc1 := hK.c1; have hf0 := hK.f0; have hf1 := hK.f1; clear hb4)))
              have hE := hK.put (.int .i64 k) (.int .i64 ((i : Int) + 1))
              have e0 := hE.c0
              have e1 := hE.c1
              rw [HPE.out]
              exact bodyPost_ret (v := .tuple #[.pointer none, .agg #[.int .i64 k, .int .i64 ((i : Int) + 1)]]) (by simp [results, Tryz.results51, go_sem, e0, e1]) rfl ⟨hE.below, rfl⟩
        · have HPE : Hid (parse s.data.toList = .error (12, some ((i : Int) + 1))) := Lib.hid (by rw [HP.out, PI1.err HD.out HX.out (by rw [HNM.out, if_neg n1, if_neg n2, if_neg n3, if_neg n4])])
          have HN4 := Lib.hid (And.intro n1 (And.intro n2 (And.intro n3 n4)))
          clear n1 n2 n3 n4
          go_wp2_with (go_at_call 88; go_must (refine HWD.out.mono ?_; rintro e w3 ⟨⟨g3, c3, ws3, s0, rfl, hwl3, hs0, he0, hc3, hz3, hl3⟩, hb3⟩; have c0 : w3.cell? ⟨g3, 0, none⟩ = some (.string s0) := hc3 0 s0 hs0; have b0 : (s0.toList == [99, 108, 97, 115, 115]) = false := beq_eq_false_iff_ne.2 (fun e => HN4.out.1 (by rw [← he0, ← Lib.toList_data, e]; rfl)); have b1 : (s0.toList == [107, 105, 110, 100]) = false := beq_eq_false_iff_ne.2 (fun e => HN4.out.2.1 (by rw [← he0, ← Lib.toList_data, e]; rfl)); have b2 : (s0.toList == [102, 111, 108, 100]) = false := beq_eq_false_iff_ne.2 (fun e => HN4.out.2.2.1 (by rw [← he0, ← Lib.toList_data, e]; rfl)); have b3 : (s0.toList == [100, 101, 99, 111, 109, 112]) = false := beq_eq_false_iff_ne.2 (fun e => HN4.out.2.2.2 (by rw [← he0, ← Lib.toList_data, e]; rfl)); have hb0 : ((ws3.length : Int) == 0) = false := beq_eq_false_iff_ne.2 (by omega); have f3 : (0 : Int) < (ws3.length : Int) := (by omega); have hK := HK2.out.later hb3; have hc0 := hK.c0; have hc1 := hK.c1; have hf0 := hK.f0; have hf1 := hK.f1; clear hwl3 hs0 hc3 hz3 hb3 he0))
          have hE := hK.put (.int .i64 12) (.int .i64 ((i : Int) + 1))
          have e0 := hE.c0
          have e1 := hE.c1
          rw [HPE.out]
          exact bodyPost_ret (v := .tuple #[.pointer none, .agg #[.int .i64 12, .int .i64 ((i : Int) + 1)]]) (by simp [results, Tryz.results51, go_sem, e0, e1]) rfl ⟨hE.below, rfl⟩
    · have hie : i = ws.length := by omega
      subst hie
      have hlen : (lg [] s.data.toList).length = ws.length := by rw [← HW5.out, wl_length]
      have HPE : Hid (parse s.data.toList = match badLeast st with | some (_, e, k) => .error (e, some k) | none => .ok st.d) := Lib.hid (by
        rw [HP.out, HD.out, List.drop_eq_nil_of_le (by omega)]
        rfl)
      have HRA : Hid (RefAt w5.heap.size w2 st) := Lib.hid ⟨by obtain ⟨v, xs, n, h1, h2⟩ := HST.out; exact ⟨_, v, xs, n, h1, h2⟩, HOK.out, HSM.out.all (by have := HM.out; omega)⟩
      have hsa : (w2.alloc (.cells #[.int .i64 0, .int .i64 0] 74)).heap.size = w2.heap.size + 1 := World.size_alloc _ _
      have HE := Lib.hid (end_calls w5.heap.size st (w2.alloc (.cells #[.int .i64 0, .int .i64 0] 74)) (HRA.out.on ((Below.refl _ w2).alloc (Nat.le_refl _) _)))
      rw [hsa] at HE
      have HFX : Hid (FX w.heap.size w2) := Lib.hid (HFX5.out.later HB2.out)
      clear hlen HD HFX5 HST
      go_wp2_with (go_at_call 91; go_must (refine HE.out.mono ?_; rintro e w6 ⟨⟨ks, ck, rfl, hks, hkl, hso, hcl⟩, hb6⟩; rw [hsa] at hks ⊢; have HT6 := Lib.hid (And.intro ((Two.start w2 (.int .i64 0) (.int .i64 0) 74).later (by rw [hsa]; exact hb6)) hks); have HKL := Lib.hid hkl; have HSO := Lib.hid hso; have HCL := Lib.hid hcl; clear hks hkl hso hcl hb6))
      go_loopw [9, 12] (fun vl vi wq => ∃ (i : Nat) (lv no ln : Int), vl = .int .i64 lv ∧ vi = .int .i64 i ∧ i ≤ st.d.decomps.length ∧ Hid (AccR st i lv no ln) ∧ Hid (Two w2 wq (.int .i64 no) (.int .i64 ln) ∧ KS (w2.heap.size + 1) wq ks)) (fun _ vi _ => st.d.decomps.length - (intOf vi).toNat)
      case atStart => exact ⟨0, -1, 0, 0, rfl, rfl, by omega, Lib.hid (AccR.start st), HT6⟩
      case round =>
        obtain ⟨i, lv, no, ln, rfl, rfl, hi3, HA, HT⟩ := hrel
        rename World => w7
        have HB7 := Lib.hid HT.out.1.below
        have HRA7 := Lib.hid (HRA.out.on HB7.out)
        obtain ⟨A, c, hq3, hlen3, hlc⟩ := HRA7.out.lined
        unfold maxLen at hlen3
        have HLL : Hid (st.d.decomps.length = st.lines.length) := Lib.hid (by
          have := congrArg List.length HOK.out.keys
          simpa using this.symm)
        by_cases hlt : i < st.d.decomps.length
        · obtain ⟨p, hp⟩ : ∃ p, st.d.decomps[i]? = some p := ⟨_, List.getElem?_eq_getElem hlt⟩
          obtain ⟨g, rfl, ta, tn, tc, kk, c0, c1, c2, hlp⟩ := hlc i p hp
          have HLP := Lib.hid hlp
          obtain ⟨b, hb⟩ : ∃ b, ks[i]? = some b := ⟨_, List.getElem?_eq_getElem (by rw [HKL.out]; exact hlt)⟩
          have hkb := HT.out.2.at hb
          obtain ⟨hp0, hp1⟩ := char_bounds (HOK.out.chars p (List.mem_of_getElem? hp)).1
          have HPB := Lib.hid (And.intro hp hb)
          have hcs := HA.out.cases HOK.out hlp
          have hkbA := (HT.out.2.later ((Below.refl _ w7).alloc (Nat.le_refl _) (.cells #[.int .i64 p.1, .slice ta tn tc, .int .i64 kk] 147))).at hb
          clear hlc hp hlp hb
          cases b with
          | true =>
            obtain ⟨m, hm⟩ := HSO.out i p HPB.out.1 HPB.out.2
            have hm9 := hm.pos
            have HF := Lib.hid (fun W (hbw : Below w7.heap.size w7 W) => full_calls w5.heap.size st p.1 m W hm hp0 hp1 (HRA7.out.on hbw))
            have HM2 := Lib.hid hm
            clear hm
            by_cases h8 : m ≤ 8
            · have f3 : (m : Int) ≤ 8 := by omega
              have HN := Lib.hid (HA.out.good HLP.out (badOf_none HM2.out h8))
              go_wp2_with (go_at_call 92; go_must (refine (HF.out _ ((Below.refl _ w7).alloc (Nat.le_refl _) _)).mono ?_; rintro e w8 ⟨rfl, hb8⟩; have hx0 : w8.cell? ⟨w7.heap.size, 0, none⟩ = some (.int .i64 p.1) := (hb8.cell (p := ⟨w7.heap.size, 0, none⟩) (by rw [World.size_alloc]; exact Nat.lt_succ_self _)).trans (cells_laid w7 [.int .i64 p.1, .slice ta tn tc, .int .i64 kk] rfl (by simp [maxLen]) 0 _ rfl); have hx2 : w8.cell? ⟨w7.heap.size, 2, none⟩ = some (.int .i64 kk) := (hb8.cell (p := ⟨w7.heap.size, 2, none⟩) (by rw [World.size_alloc]; exact Nat.lt_succ_self _)).trans (cells_laid w7 [.int .i64 p.1, .slice ta tn tc, .int .i64 kk] rfl (by simp [maxLen]) 2 _ rfl); have hb78 : Below w7.heap.size w7 w8 := below_then ((Below.refl _ w7).alloc (Nat.le_refl _) _) hb8; have hT := HT.out.1.later hb78; have hc0 := hT.c0; have hc1 := hT.c1; have hf0 := hT.f0; have hf1 := hT.f1; have hks8 := HT.out.2.later hb78; have hkb8 := hks8.at HPB.out.2; have HT8 := Lib.hid (And.intro hT hks8); clear hb8 hb78 hT hks8))
              have HTN := HT8
              go_roundw
              case rel => exact ⟨i + 1, lv, no, ln, rfl, by go_num, by omega, HN, HTN⟩
              case measure => simp [intOf]; omega
            · have f3 : ¬ (m : Int) ≤ 8 := by omega
              have HBad := Lib.hid (badOf_many HM2.out (by omega))
              rcases hcs with hl0 | ⟨hl0, hl1⟩ | ⟨hl0, hl1⟩
              · have f4 : ¬ (0 : Int) ≤ lv := by omega
                have HN := Lib.hid (HA.out.new HLP.out HBad.out hp0 (by omega))
                go_wp2_with (go_at_call 92; go_must (refine (HF.out _ ((Below.refl _ w7).alloc (Nat.le_refl _) _)).mono ?_; rintro e w8 ⟨rfl, hb8⟩; have hx0 : w8.cell? ⟨w7.heap.size, 0, none⟩ = some (.int .i64 p.1) := (hb8.cell (p := ⟨w7.heap.size, 0, none⟩) (by rw [World.size_alloc]; exact Nat.lt_succ_self _)).trans (cells_laid w7 [.int .i64 p.1, .slice ta tn tc, .int .i64 kk] rfl (by simp [maxLen]) 0 _ rfl); have hx2 : w8.cell? ⟨w7.heap.size, 2, none⟩ = some (.int .i64 kk) := (hb8.cell (p := ⟨w7.heap.size, 2, none⟩) (by rw [World.size_alloc]; exact Nat.lt_succ_self _)).trans (cells_laid w7 [.int .i64 p.1, .slice ta tn tc, .int .i64 kk] rfl (by simp [maxLen]) 2 _ rfl); have hb78 : Below w7.heap.size w7 w8 := below_then ((Below.refl _ w7).alloc (Nat.le_refl _) _) hb8; have hT := HT.out.1.later hb78; have hc0 := hT.c0; have hc1 := hT.c1; have hf0 := hT.f0; have hf1 := hT.f1; have hks8 := HT.out.2.later hb78; have hkb8 := hks8.at HPB.out.2; have HT8 := Lib.hid (And.intro hT hks8); clear hb8 hb78 hT hks8))
                have HTN : Hid (Two w2 (((w8.setCell ⟨w2.heap.size, 0, none⟩ (.int .i64 14)).setCell ⟨w2.heap.size, 1, none⟩ (.int .i64 kk)).setCell ⟨w2.heap.size, 0, none⟩ (.int .i64 5)) (.int .i64 5) (.int .i64 kk) ∧ KS (w2.heap.size + 1) (((w8.setCell ⟨w2.heap.size, 0, none⟩ (.int .i64 14)).setCell ⟨w2.heap.size, 1, none⟩ (.int .i64 kk)).setCell ⟨w2.heap.size, 0, none⟩ (.int .i64 5)) ks) := Lib.hid ⟨Two.put0 (HT8.out.1.put _ _) _, ((HT8.out.2.far (Nat.succ_ne_self _) _).far (Nat.succ_ne_self _) _).far (Nat.succ_ne_self _) _⟩
                go_roundw
                case rel => exact ⟨i + 1, p.1, 5, kk, rfl, by go_num, by omega, HN, HTN⟩
                case measure => simp [intOf]; omega
              · have HN := Lib.hid (HA.out.keep HLP.out HBad.out hl0 hl1)
                go_wp2_with (go_at_call 92; go_must (refine (HF.out _ ((Below.refl _ w7).alloc (Nat.le_refl _) _)).mono ?_; rintro e w8 ⟨rfl, hb8⟩; have hx0 : w8.cell? ⟨w7.heap.size, 0, none⟩ = some (.int .i64 p.1) := (hb8.cell (p := ⟨w7.heap.size, 0, none⟩) (by rw [World.size_alloc]; exact Nat.lt_succ_self _)).trans (cells_laid w7 [.int .i64 p.1, .slice ta tn tc, .int .i64 kk] rfl (by simp [maxLen]) 0 _ rfl); have hx2 : w8.cell? ⟨w7.heap.size, 2, none⟩ = some (.int .i64 kk) := (hb8.cell (p := ⟨w7.heap.size, 2, none⟩) (by rw [World.size_alloc]; exact Nat.lt_succ_self _)).trans (cells_laid w7 [.int .i64 p.1, .slice ta tn tc, .int .i64 kk] rfl (by simp [maxLen]) 2 _ rfl); have hb78 : Below w7.heap.size w7 w8 := below_then ((Below.refl _ w7).alloc (Nat.le_refl _) _) hb8; have hT := HT.out.1.later hb78; have hc0 := hT.c0; have hc1 := hT.c1; have hf0 := hT.f0; have hf1 := hT.f1; have hks8 := HT.out.2.later hb78; have hkb8 := hks8.at HPB.out.2; have HT8 := Lib.hid (And.intro hT hks8); clear hb8 hb78 hT hks8))
                have HTN := HT8
                go_roundw
                case rel => exact ⟨i + 1, lv, no, ln, rfl, by go_num, by omega, HN, HTN⟩
                case measure => simp [intOf]; omega
              · have f4 : ¬ lv < p.1 := by omega
                have HN := Lib.hid (HA.out.new HLP.out HBad.out hp0 (by omega))
                go_wp2_with (go_at_call 92; go_must (refine (HF.out _ ((Below.refl _ w7).alloc (Nat.le_refl _) _)).mono ?_; rintro e w8 ⟨rfl, hb8⟩; have hx0 : w8.cell? ⟨w7.heap.size, 0, none⟩ = some (.int .i64 p.1) := (hb8.cell (p := ⟨w7.heap.size, 0, none⟩) (by rw [World.size_alloc]; exact Nat.lt_succ_self _)).trans (cells_laid w7 [.int .i64 p.1, .slice ta tn tc, .int .i64 kk] rfl (by simp [maxLen]) 0 _ rfl); have hx2 : w8.cell? ⟨w7.heap.size, 2, none⟩ = some (.int .i64 kk) := (hb8.cell (p := ⟨w7.heap.size, 2, none⟩) (by rw [World.size_alloc]; exact Nat.lt_succ_self _)).trans (cells_laid w7 [.int .i64 p.1, .slice ta tn tc, .int .i64 kk] rfl (by simp [maxLen]) 2 _ rfl); have hb78 : Below w7.heap.size w7 w8 := below_then ((Below.refl _ w7).alloc (Nat.le_refl _) _) hb8; have hT := HT.out.1.later hb78; have hc0 := hT.c0; have hc1 := hT.c1; have hf0 := hT.f0; have hf1 := hT.f1; have hks8 := HT.out.2.later hb78; have hkb8 := hks8.at HPB.out.2; have HT8 := Lib.hid (And.intro hT hks8); clear hb8 hb78 hT hks8))
                have HTN : Hid (Two w2 (((w8.setCell ⟨w2.heap.size, 0, none⟩ (.int .i64 14)).setCell ⟨w2.heap.size, 1, none⟩ (.int .i64 kk)).setCell ⟨w2.heap.size, 0, none⟩ (.int .i64 5)) (.int .i64 5) (.int .i64 kk) ∧ KS (w2.heap.size + 1) (((w8.setCell ⟨w2.heap.size, 0, none⟩ (.int .i64 14)).setCell ⟨w2.heap.size, 1, none⟩ (.int .i64 kk)).setCell ⟨w2.heap.size, 0, none⟩ (.int .i64 5)) ks) := Lib.hid ⟨Two.put0 (HT8.out.1.put _ _) _, ((HT8.out.2.far (Nat.succ_ne_self _) _).far (Nat.succ_ne_self _) _).far (Nat.succ_ne_self _) _⟩
                go_roundw
                case rel => exact ⟨i + 1, p.1, 5, kk, rfl, by go_num, by omega, HN, HTN⟩
                case measure => simp [intOf]; omega
          | false =>
            have HBad := Lib.hid (badOf_loop (closed_none HOK.out HCL.out HPB.out.1 HPB.out.2))
            rcases hcs with hl0 | ⟨hl0, hl1⟩ | ⟨hl0, hl1⟩
            · have f4 : ¬ (0 : Int) ≤ lv := by omega
              have HN := Lib.hid (HA.out.new HLP.out HBad.out hp0 (by omega))
              have hT := HT.out.1.later ((Below.refl _ w7).alloc (Nat.le_refl _) (.cells #[.int .i64 p.1, .slice ta tn tc, .int .i64 kk] 147))
              have hc0 := hT.c0
              have hc1 := hT.c1
              have hf0 := hT.f0
              have hf1 := hT.f1
              have hks8 := HT.out.2.later ((Below.refl _ w7).alloc (Nat.le_refl _) (.cells #[.int .i64 p.1, .slice ta tn tc, .int .i64 kk] 147))
              have hkb8 := hks8.at HPB.out.2
              have HTN : Hid (Two w2 ((((w7.alloc (.cells #[.int .i64 p.1, .slice ta tn tc, .int .i64 kk] 147)).setCell ⟨w2.heap.size, 0, none⟩ (.int .i64 14)).setCell ⟨w2.heap.size, 1, none⟩ (.int .i64 kk))) (.int .i64 14) (.int .i64 kk) ∧ KS (w2.heap.size + 1) ((((w7.alloc (.cells #[.int .i64 p.1, .slice ta tn tc, .int .i64 kk] 147)).setCell ⟨w2.heap.size, 0, none⟩ (.int .i64 14)).setCell ⟨w2.heap.size, 1, none⟩ (.int .i64 kk))) ks) := Lib.hid ⟨hT.put _ _, (hks8.far (Nat.succ_ne_self _) _).far (Nat.succ_ne_self _) _⟩
              clear hT hks8
              go_wp2
              go_roundw
              case rel => exact ⟨i + 1, p.1, 14, kk, rfl, by go_num, by omega, HN, HTN⟩
              case measure => simp [intOf]; omega
            · have HN := Lib.hid (HA.out.keep HLP.out HBad.out hl0 hl1)
              have HTN : Hid (Two w2 (w7.alloc (.cells #[.int .i64 p.1, .slice ta tn tc, .int .i64 kk] 147)) (.int .i64 no) (.int .i64 ln) ∧ KS (w2.heap.size + 1) (w7.alloc (.cells #[.int .i64 p.1, .slice ta tn tc, .int .i64 kk] 147)) ks) := Lib.hid ⟨HT.out.1.later ((Below.refl _ w7).alloc (Nat.le_refl _) _), HT.out.2.later ((Below.refl _ w7).alloc (Nat.le_refl _) _)⟩
              go_wp2
              go_roundw
              case rel => exact ⟨i + 1, lv, no, ln, rfl, by go_num, by omega, HN, HTN⟩
              case measure => simp [intOf]; omega
            · have f4 : ¬ lv < p.1 := by omega
              have HN := Lib.hid (HA.out.new HLP.out HBad.out hp0 (by omega))
              have hT := HT.out.1.later ((Below.refl _ w7).alloc (Nat.le_refl _) (.cells #[.int .i64 p.1, .slice ta tn tc, .int .i64 kk] 147))
              have hc0 := hT.c0
              have hc1 := hT.c1
              have hf0 := hT.f0
              have hf1 := hT.f1
              have hks8 := HT.out.2.later ((Below.refl _ w7).alloc (Nat.le_refl _) (.cells #[.int .i64 p.1, .slice ta tn tc, .int .i64 kk] 147))
              have hkb8 := hks8.at HPB.out.2
              have HTN : Hid (Two w2 ((((w7.alloc (.cells #[.int .i64 p.1, .slice ta tn tc, .int .i64 kk] 147)).setCell ⟨w2.heap.size, 0, none⟩ (.int .i64 14)).setCell ⟨w2.heap.size, 1, none⟩ (.int .i64 kk))) (.int .i64 14) (.int .i64 kk) ∧ KS (w2.heap.size + 1) ((((w7.alloc (.cells #[.int .i64 p.1, .slice ta tn tc, .int .i64 kk] 147)).setCell ⟨w2.heap.size, 0, none⟩ (.int .i64 14)).setCell ⟨w2.heap.size, 1, none⟩ (.int .i64 kk))) ks) := Lib.hid ⟨hT.put _ _, (hks8.far (Nat.succ_ne_self _) _).far (Nat.succ_ne_self _) _⟩
              clear hT hks8
              go_wp2
              go_roundw
              case rel => exact ⟨i + 1, p.1, 14, kk, rfl, by go_num, by omega, HN, HTN⟩
              case measure => simp [intOf]; omega
        · have hie : i = st.d.decomps.length := by omega
          have HBL : Hid (badLeast st = accB st i) := Lib.hid (by rw [hie, HLL.out]; exact (accB_all st).symm)
          have hT := HK2.out.later HB7.out
          have hc0 := hT.c0
          have hc1 := hT.c1
          have hf0 := hT.f0
          have hf1 := hT.f1
          have HFX7 := Lib.hid (HFX.out.later HB7.out)
          have hwq : w.heap.size ≤ w5.heap.size := HK5.out.below.size
          subst hie
          clear hlc
          rcases HA.out with ⟨h1, h2⟩ | ⟨h1, h2⟩
          · subst h2
            have HPD : Hid (parse s.data.toList = .ok st.d) := Lib.hid (by rw [HPE.out, HBL.out, h1])
            clear h1
            go_wp2
            have hE := hT.put (.int .i64 0) (.int .i64 0)
            have e0 := hE.c0
            have e1 := hE.c1
            rw [HPD.out]
            exact bodyPost_ret (v := .tuple #[.pointer (some ⟨w5.heap.size, 0, none⟩), .agg #[.int .i64 0, .int .i64 0]]) (by simp [results, Tryz.results51, go_sem, e0, e1]) rfl ⟨hE.below, _, st, rfl, HRA7.out.put HFX7.out _ _, rfl, hwq⟩
          · have HPD : Hid (parse s.data.toList = .error (no, some ln)) := Lib.hid (by rw [HPE.out, HBL.out, h1])
            have fc0 := HT.out.1.c0
            have fc1 := HT.out.1.c1
            clear h1
            go_wp2
            go_region
            go_wp2
            have hE := hT.put (.int .i64 no) (.int .i64 ln)
            have e0 := hE.c0
            have e1 := hE.c1
            rw [HPD.out]
            exact bodyPost_ret (v := .tuple #[.pointer none, .agg #[.int .i64 no, .int .i64 ln]]) (by simp [results, Tryz.results51, go_sem, e0, e1]) rfl ⟨hE.below.drew, rfl⟩
theorem rparse_calls (s : ByteArray) (w : World) (KT : KindsAt w) : Calls Tryz.prog 51 #[.string s] w fun e w' => RParseOut (parse s.data.toList) w e w' := by
  by_cases h : s.size ≤ 1048576
  · by_cases hm : (lg [] s.data.toList).length ≤ 65536
    · exact rparse_main s w h KT hm
    · exact rparse_many s w h (by omega)
  · exact rparse_big s w (by omega)
end Go.Proofs.YtikpkjpnehkbfaaGreatDoor.Rf
namespace Go.Proofs.YtikpkjpnehkbfaaGreatDoor.Sp
theorem point_e {w : Bytes} {k : Int} (h : pointOf w = .error k) : 1 ≤ k ∧ k ≤ 25 := by
  unfold pointOf at h
  split at h
  · simp only [Except.error.injEq] at h; omega
  · split at h
    · cases h
    · simp only [Except.error.injEq] at h; omega
theorem span_e {l : Bytes} {k : Int} (h : spanOf l = .error k) : 1 ≤ k ∧ k ≤ 25 := by
  unfold spanOf at h
  simp only at h
  split at h
  · split at h
    · split at h
      · simp only [Except.error.injEq] at h; omega
      · cases h
    · simp only [Except.error.injEq] at h; omega
  · simp only [Except.error.injEq] at h; omega
theorem class_e {l : Bytes} {k : Int} (h : classNo l = .error k) : 1 ≤ k ∧ k ≤ 25 := by
  unfold classNo at h
  split at h
  · split at h
    · injection h with h; omega
    · cases h
  · injection h with h; omega
theorem points_e : ∀ {l : List Bytes} {k : Int}, pointsOf l = .error k → 1 ≤ k ∧ k ≤ 25
  | [], k, h => by simp [pointsOf] at h
  | w :: l, k, h => by
    simp only [pointsOf] at h
    cases hp : pointOf w with
    | error e => rw [hp] at h; injection h with h; subst h; exact point_e hp
    | ok n =>
      rw [hp] at h
      simp only at h
      cases hq : pointsOf l with
      | error e => rw [hq] at h; injection h with h; subst h; exact points_e hq
      | ok ns => rw [hq] at h; cases h
theorem three_e {w : List Bytes} {k : Int} (h : threeOf w = .error k) : 1 ≤ k ∧ k ≤ 25 := by
  unfold threeOf at h
  split at h
  · injection h with h; omega
  · split at h
    · injection h with h; omega
    · exact span_e h
theorem some_e {w : List Bytes} {k : Int} (h : someOf w = .error k) : 1 ≤ k ∧ k ≤ 25 := by
  unfold someOf at h
  split at h
  · injection h with h; omega
  · split at h
    · injection h with h; omega
    · exact points_e h
theorem line_e {st : St} {w : List Bytes} {n k : Int} (h : doLine st w n = .error k) : 1 ≤ k ∧ k ≤ 25 := by
  unfold doLine at h
  split at h
  · cases h
  · split at h
    · unfold doClass at h
      split at h
      · rename_i e; injection h with h; subst h; exact three_e e
      · split at h
        · rename_i e; injection h with h; subst h; exact class_e e
        · cases h
    · split at h
      · unfold doKind at h
        split at h
        · rename_i e; injection h with h; subst h; exact three_e e
        · split at h
          · injection h with h; omega
          · cases h
      · split at h
        · unfold doFold at h
          split at h
          · rename_i e; injection h with h; subst h; exact some_e e
          · injection h with h; omega
          · split at h
            · injection h with h; omega
            · cases h
        · split at h
          · unfold doDecomp at h
            split at h
            · rename_i e; injection h with h; subst h; exact some_e e
            · injection h with h; omega
            · split at h
              · injection h with h; omega
              · split at h
                · injection h with h; omega
                · cases h
          · injection h with h; omega
theorem line_keeps {st st' : St} {w : List Bytes} {n : Int} (h : doLine st w n = .ok st') : ∀ p ∈ st'.lines, p ∈ st.lines ∨ p.2 = n := by
  unfold doLine at h
  split at h
  · injection h with h; subst h; exact fun p hp => .inl hp
  · split at h
    · unfold doClass at h
      split at h
      · cases h
      · split at h
        · cases h
        · injection h with h; subst h; exact fun p hp => .inl hp
    · split at h
      · unfold doKind at h
        split at h
        · cases h
        · split at h
          · cases h
          · injection h with h; subst h; exact fun p hp => .inl hp
      · split at h
        · unfold doFold at h
          split at h
          · cases h
          · cases h
          · split at h
            · cases h
            · injection h with h; subst h; exact fun p hp => .inl hp
        · split at h
          · unfold doDecomp at h
            split at h
            · cases h
            · cases h
            · split at h
              · cases h
              · split at h
                · cases h
                · injection h with h; subst h
                  intro p hp
                  simp only [List.mem_append, List.mem_singleton] at hp
                  rcases hp with hp | rfl
                  · exact .inl hp
                  · exact .inr rfl
          · cases h
theorem lines_e : ∀ {ls : List Bytes} {st : St} {n : Int} {x : Int × Int}, 1 ≤ n → doLines st ls n = .error x → (1 ≤ x.1 ∧ x.1 ≤ 25) ∧ 1 ≤ x.2
  | [], st, n, x, hn, h => by cases h
  | l :: ls, st, n, x, hn, h => by
    simp only [doLines] at h
    cases hl : doLine st (wordsOf l) n with
    | error e => rw [hl] at h; injection h with h; subst h; exact ⟨line_e hl, hn⟩
    | ok s => rw [hl] at h; exact lines_e (by omega) h
theorem lines_k : ∀ {ls : List Bytes} {st st' : St} {n : Int}, 1 ≤ n → (∀ p ∈ st.lines, 1 ≤ p.2) → doLines st ls n = .ok st' → ∀ p ∈ st'.lines, 1 ≤ p.2
  | [], st, st', n, hn, hs, h => by simp only [doLines] at h; injection h with h; subst h; exact hs
  | l :: ls, st, st', n, hn, hs, h => by
    simp only [doLines] at h
    cases hl : doLine st (wordsOf l) n with
    | error e => rw [hl] at h; cases h
    | ok s =>
      rw [hl] at h
      refine lines_k (by omega) (fun p hp => ?_) h
      rcases line_keeps hl p hp with h1 | h1
      · exact hs p h1
      · omega
theorem bad_e {st : St} {x : Int × Int × Int} (hs : ∀ p ∈ st.lines, 1 ≤ p.2) (h : badLeast st = some x) : (1 ≤ x.2.1 ∧ x.2.1 ≤ 25) ∧ 1 ≤ x.2.2 := by
  obtain ⟨k1, _, _⟩ := (bad_fold st.d st.lines none).2 x h
  rcases k1 with k1 | ⟨k0, k1⟩
  · cases k1
  · refine ⟨?_, hs (x.1, x.2.2) k0⟩
    unfold badOf at k1
    split at k1
    · cases k1
    · split at k1
      · injection k1 with k1; omega
      · injection k1 with k1; omega
theorem parse_e {s : Bytes} {k : Int} {o : Option Int} (h : parse s = .error (k, o)) : (1 ≤ k ∧ k ≤ 25) ∧ ∀ l, o = some l → 1 ≤ l := by
  unfold parse at h
  split at h
  · injection h with h; injection h with h h'; subst h'; exact ⟨by omega, fun l e => by cases e⟩
  · cases hd : doLines {} (pieces 10 s) 1 with
    | error x =>
      rw [hd] at h
      injection h with h
      injection h with h h'
      subst h
      have := lines_e (Int.le_refl 1) hd
      exact ⟨this.1, fun l e => by rw [← h'] at e; injection e with e; subst e; exact this.2⟩
    | ok st =>
      rw [hd] at h
      simp only at h
      cases hb : badLeast st with
      | none => rw [hb] at h; cases h
      | some x =>
        obtain ⟨x1, x2, x3⟩ := x
        rw [hb] at h
        injection h with h
        injection h with h h'
        subst h
        have := bad_e (lines_k (Int.le_refl 1) (fun p hp => by cases hp) hd) hb
        exact ⟨this.1, fun l e => by rw [← h'] at e; injection e with e; subst e; exact this.2⟩
end Go.Proofs.YtikpkjpnehkbfaaGreatDoor.Sp
namespace Go.Proofs.YtikpkjpnehkbfaaGreatDoor.Nw
open Go Go.RowKit Go.Shelf Go.Proofs.YtikpkjpnehkbfaaGreatDoor.Sp Go.Proofs.YtikpkjpnehkbfaaGreatDoor.Pr Go.Proofs.YtikpkjpnehkbfaaGreatDoor.Rf Go.Proofs.YtikpkjpnehkbfaaGreatDoor.Nm Go.Proofs.YtikpkjpnehkbfaaGreatDoor.Sb Go.Proofs.YtikpkjpnehkbfaaGreatDoor.Ut
set_option maxHeartbeats 4000000 in
set_option maxRecDepth 100000 in
theorem nread_bad (s : ByteArray) {m : Int} {ev : Value} (w : World) (hkd : KindsAt w) {k : Int} {o : Option Int} (h : parse s.data.toList = .error (k, o)) :
    Calls Tryz.prog 15 #[.string s] w fun e w' => e = .returned (.tuple #[.pointer none, .pointer none, .bool false]) ∧ Below w.heap.size w w' := by
  have hk := (parse_e h).1
  have HRP : Hid (Calls Tryz.prog 51 #[.string s] w fun e w' => e = .returned (.tuple #[.pointer none, .agg #[.int .i64 k, .int .i64 (o.getD 0)]]) ∧ Below w.heap.size w w') := Lib.hid ((rparse_calls s w hkd).mono fun e w' ho => by
    rw [h] at ho
    exact ⟨ho.2, ho.1⟩)
  have hkz : (k != (0 : Int)) = true := by simp; omega
  clear h hkd hk
  generalize o.getD 0 = l at *
  go_enter Tryz.func15, Tryz.ntmps15
  go_wp2_with (go_at_call 51; (with_reducible refine HRP.out.mono ?_); rintro e w2 ⟨rfl, hb⟩; have HB2 := Lib.hid hb; have hc0 := (Two.start w2 (.int .i64 k) (.int .i64 l) 74).c0; clear hb)
  go_wp2
  go_ret3
  exact ⟨rfl, (HB2.out.alloc HB2.out.size _)⟩
set_option maxHeartbeats 4000000 in
set_option maxRecDepth 100000 in
theorem nread_good (s : ByteArray) {m : Int} {ev : Value} (w : World) (hv : Vars w.heap.size w m ev) (hkd : KindsAt w) (hs : s.size ≤ 1048576) {D : PD} (h : parse s.data.toList = .ok D) :
    Calls Tryz.prog 15 #[.string s] w fun e w' => ∃ p q st, e = .returned (.tuple #[.pointer (some ⟨p, 0, none⟩), .pointer (some ⟨q, 0, none⟩), .bool true]) ∧ PropsAt w'.heap.size w' p D ∧ RefAt q w' st ∧ st.d = D ∧ Below w.heap.size w w' := by
  have HRP : Hid (Calls Tryz.prog 51 #[.string s] w fun e w' => ∃ q st, e = .returned (.tuple #[.pointer (some ⟨q, 0, none⟩), .agg #[.int .i64 0, .int .i64 0]]) ∧ RefAt q w' st ∧ st.d = D ∧ Below w.heap.size w w') := Lib.hid ((rparse_calls s w hkd).mono fun e w' ho => by
    rw [h] at ho
    obtain ⟨hb, q, st, e1, e2, e3, _⟩ := ho
    exact ⟨q, st, e1, e2, e3, hb⟩)
  have HPP : Hid (∀ W, Vars W.heap.size W m ev → Calls Tryz.prog 31 #[.string s] W fun e w' => ∃ p, e = .returned (.tuple #[.pointer (some ⟨p, 0, none⟩), .nilIface]) ∧ PropsAt w'.heap.size w' p D ∧ Below W.heap.size W w') := Lib.hid fun W hW => parse_good hs hW h
  have HV := Lib.hid hv
  clear h hv hkd
  go_enter Tryz.func15, Tryz.ntmps15
  go_wp2_with (first
    | (go_at_call 51; (with_reducible refine HRP.out.mono ?_); rintro e w2 ⟨q, st, rfl, hr, hd, hb⟩; have HB2 := Lib.hid (hb.alloc hb.size (.cells #[.int .i64 0, .int .i64 0] 74)); have HR2 := Lib.hid (hr.on ((Below.refl _ w2).alloc (Nat.le_refl _) (.cells #[.int .i64 0, .int .i64 0] 74))); have HD := Lib.hid hd; have hc0 := (Two.start w2 (.int .i64 0) (.int .i64 0) 74).c0; clear hb hr hd)
    | (go_at_call 31; (with_reducible refine (HPP.out _ (HV.out.on HB2.out)).mono ?_); rintro e w3 ⟨p, rfl, hp, hb⟩; have HB3 := Lib.hid (bl_then HB2.out hb); have HP3 := Lib.hid hp; have HR3 := Lib.hid (HR2.out.on hb); clear hb hp))
  go_ret3
  exact ⟨p, q, st, rfl, HP3.out, HR3.out, HD.out, HB3.out⟩
end Go.Proofs.YtikpkjpnehkbfaaGreatDoor.Nw
