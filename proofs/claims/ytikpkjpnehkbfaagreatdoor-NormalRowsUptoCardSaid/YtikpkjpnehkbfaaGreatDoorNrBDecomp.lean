/- A line of decomp: the walks. -/
import Derived.Test.YtikpkjpnehkbfaaGreatDoorNrBPoints
import Derived.Test.YtikpkjpnehkbfaaGreatDoorNrA
import Derived.Lib.AtoiAll
import Derived.Deep.AppendLies
import Derived.Deep.RegionLaw
import Derived.WalkLawsBesides
import Derived.Maps.RangeRun
set_option linter.unusedSimpArgs false
namespace Go.Proofs.YtikpkjpnehkbfaaGreatDoor.Pr
open Go Go.RowKit Go.Shelf Go.Proofs.YtikpkjpnehkbfaaGreatDoor.Sp Go.Proofs.YtikpkjpnehkbfaaGreatDoor.Mapl Go.Proofs.YtikpkjpnehkbfaaGreatDoor.Rowl
set_option maxHeartbeats 4000000 in
theorem dec_err (x : Nat) (v : Value) (k : Int) (w : World) (hs : Hid (SomeErr v w k w.heap.size)) :
    Calls Tryz.prog 67 #[.pointer (some ⟨x, 0, none⟩), v] w fun e w' => e = .returned (errV k) ∧ Below w.heap.size w w' := by
  have he : errV k = .iface 87 (.int .i64 k) := rfl
  unfold SomeErr at hs
  rw [he] at hs ⊢
  clear he
  go_enter Tryz.func67, Tryz.ntmps67
  go_wp2_with (go_at_call 111; refine hs.out.mono ?_; rintro e w1 ⟨rfl, hb⟩)
  go_ret
  exact ⟨rfl, hb⟩
set_option maxHeartbeats 8000000 in
set_option maxRecDepth 100000 in
theorem dec_twice {B : Blocks} {cv kv : Value} {n₀ : Nat} {st : St} {line : Int} (v : Value) (w : World) (h : StB B cv kv n₀ w st line) (r : Int) (ps : List Int) (hs : Hid (SomeOk v w r ps)) (hl : (lookD st.d.decomps r).isSome = true) :
    Calls Tryz.prog 67 #[.pointer (some ⟨B.x, 0, none⟩), v] w fun e w' => e = .returned (errV 13) ∧ Below w.heap.size w w' := by
  have H := Lib.hid h
  have HL := Lib.hid hl
  clear h hl
  unfold SomeOk at hs
  go_enter Tryz.func67, Tryz.ntmps67
  go_wp2_with (go_at_call 111; refine hs.out.mono ?_; rintro e w1 ⟨⟨g, c, rfl, hc1, hc2, hg0, hpt⟩, hb⟩)
  have h1 := H.out.later hb
  have c1 : w1.cell? ⟨B.x, 0, none⟩ = some (.pointer (some ⟨B.p, 0, none⟩)) := by rw [cell_of_row w1 _ 0 _ _ (0, 0) h1.hx]; rfl
  have c2 : w1.cell? ⟨B.p, 3, none⟩ = some (.map (some B.d)) := by rw [cell_of_row w1 _ 3 _ _ (0, 0) h1.hp]; rfl
  obtain ⟨vl, _, hlk⟩ := look_pts h1.md.map r
  have hlk1 := (hlk w1.drew rfl).2
  rw [HL.out] at hlk1
  clear hlk h1 hpt
  go_region
  go_wp2
  go_ret
  exact ⟨rfl, hb.trans ⟨rfl, rfl, rfl, Nat.le_refl _, fun _ _ => rfl⟩⟩
def SylAt (r : Int) (b : Bool) : Prop := ∀ W : World, Calls Tryz.prog 96 #[.int .i32 r] W fun e w' => e = .returned (.bool b) ∧ w' = W
theorem sylAt {r : Int} {b : Bool} (h : isSyl r = b) : SylAt r b := fun W => h ▸ syllable_calls r W
def JamAt (r : Int) (b : Bool) : Prop := ∀ W : World, Calls Tryz.prog 97 #[.int .i32 r] W fun e w' => e = .returned (.bool b) ∧ w' = W
theorem jamAt {r : Int} {b : Bool} (h : isJamo r = b) : JamAt r b := fun W => h ▸ jamo_calls r W
set_option maxHeartbeats 8000000 in
set_option maxRecDepth 100000 in
theorem dec_arg {B : Blocks} {cv kv : Value} {n₀ : Nat} {st : St} {line : Int} (v : Value) (w : World) (h : StB B cv kv n₀ w st line) (r : Int) (ps : List Int) (hs : Hid (SomeOk v w r ps)) (hl : lookD st.d.decomps r = none) (sy : Bool) (hsy : Hid (SylAt r sy)) (hja : sy = false → JamAt r true) :
    Calls Tryz.prog 67 #[.pointer (some ⟨B.x, 0, none⟩), v] w fun e w' => e = .returned (errV 1) ∧ Below w.heap.size w w' := by
  have H := Lib.hid h
  have HL := Lib.hid hl
  clear h hl
  unfold SomeOk at hs
  cases sy with
  | true =>
    clear hja
    go_enter Tryz.func67, Tryz.ntmps67
    go_wp2_with (go_at_call 111; refine hs.out.mono ?_; rintro e w1 ⟨⟨g, c, rfl, hc1, hc2, hg0, hpt⟩, hb⟩)
    have h1 := H.out.later hb
    have c1 : w1.cell? ⟨B.x, 0, none⟩ = some (.pointer (some ⟨B.p, 0, none⟩)) := by rw [cell_of_row w1 _ 0 _ _ (0, 0) h1.hx]; rfl
    have c2 : w1.cell? ⟨B.p, 3, none⟩ = some (.map (some B.d)) := by rw [cell_of_row w1 _ 3 _ _ (0, 0) h1.hp]; rfl
    obtain ⟨vl, _, hlk⟩ := look_pts h1.md.map r
    have hlk1 := (hlk w1.drew rfl).2
    rw [HL.out] at hlk1
    clear hlk h1 hpt
    go_region
    go_wp2_with (go_at_call 96; refine (hsy.out _).mono ?_; rintro e w2 ⟨rfl, hw2⟩; subst w2)
    go_ret
    exact ⟨rfl, hb.trans ⟨rfl, rfl, rfl, Nat.le_refl _, fun _ _ => rfl⟩⟩
  | false =>
    have hja' := Lib.hid (hja rfl)
    clear hja
    go_enter Tryz.func67, Tryz.ntmps67
    go_wp2_with (go_at_call 111; refine hs.out.mono ?_; rintro e w1 ⟨⟨g, c, rfl, hc1, hc2, hg0, hpt⟩, hb⟩)
    have h1 := H.out.later hb
    have c1 : w1.cell? ⟨B.x, 0, none⟩ = some (.pointer (some ⟨B.p, 0, none⟩)) := by rw [cell_of_row w1 _ 0 _ _ (0, 0) h1.hx]; rfl
    have c2 : w1.cell? ⟨B.p, 3, none⟩ = some (.map (some B.d)) := by rw [cell_of_row w1 _ 3 _ _ (0, 0) h1.hp]; rfl
    obtain ⟨vl, _, hlk⟩ := look_pts h1.md.map r
    have hlk1 := (hlk w1.drew rfl).2
    rw [HL.out] at hlk1
    clear hlk h1 hpt
    go_region
    go_wp2_with (first | (go_at_call 96; refine (hsy.out _).mono ?_; rintro e w2 ⟨rfl, hw2⟩; subst w2) | (go_at_call 97; refine (hja'.out _).mono ?_; rintro e w2 ⟨rfl, hw2⟩; subst w2))
    go_ret
    exact ⟨rfl, hb.trans ⟨rfl, rfl, rfl, Nat.le_refl _, fun _ _ => rfl⟩⟩
structure Mid (B : Blocks) (cv kv : Value) (n₀ : Nat) (w1 W3 : World) (st : St) (line r : Int) (ps : List Int) : Prop where
  same : ∀ k, k < w1.heap.size → k ≠ B.d → k ≠ B.l → W3.heap[k]? = w1.heap[k]?
  size : W3.heap.size = w1.heap.size
  os : W3.os = w1.os
  tape : W3.tape = w1.tape
  output : W3.output = w1.output
  md : MapPts W3 B.d (st.d.decomps ++ [(r, ps)])
  ml : MapInt W3 B.l (st.lines ++ [(r, line)])
  mq : MapPair W3 B.q st.d.decomps
theorem mid_of {B : Blocks} {cv kv : Value} {n₀ : Nat} {w1 : World} {st : St} {line r : Int} {ps : List Int} (h : StB B cv kv n₀ w1 st line) (hl : lookD st.d.decomps r = none) (hr : r ∉ st.lines.map (·.1)) {v : Value} (hv : PtsB w1 v ps) :
    ∃ W2 W3, (Instr.mapUpdate 89 (.map (some B.d)) (.int .i32 r) v).run Tryz.prog w1.drew.drew = .ok () W2 ∧ (Instr.mapUpdate 94 (.map (some B.l)) (.int .i32 r) (.int .i64 line)).run Tryz.prog W2.drew = .ok () W3 ∧ (∀ k, k < w1.heap.size → k ≠ B.d → W2.heap[k]? = w1.heap[k]?) ∧ Mid B cv kv n₀ w1 W3 st line r ps := by
  obtain ⟨o, hu, hm⟩ := h.md.put r hl v ps hv
  have hne := h.ne
  have e1 : (setB w1.drew.drew B.d o).drew.heap[B.l]? = w1.heap[B.l]? := setB_other (w := w1.drew.drew) o hne.2.1
  obtain ⟨o2, hu2, hm2⟩ := h.ml.put r line hr
  have hd2 := hm w1.drew.drew (grown_of_below (((Below.refl _ _).drew).drew))
  obtain ⟨es, clk, hh, hs, hc⟩ := hd2
  obtain ⟨_, _, l1, _⟩ := h.ml
  refine ⟨_, _, hu w1.drew.drew rfl, hu2 _ e1, fun k hk hkd => setB_other (w := w1.drew.drew) o hkd, ?_⟩
  have hg2 := setB_grown (setB w1.drew.drew B.d o).drew B.l o2
  exact {
    same := fun k hk hkd hkl => (setB_other (w := (setB w1.drew.drew B.d o).drew) o2 hkl).trans (setB_other (w := w1.drew.drew) o hkd)
    size := by rw [setB_size]; show (setB w1.drew.drew B.d o).heap.size = _; rw [setB_size]; rfl
    os := rfl
    tape := rfl
    output := rfl
    md := MapPts.grown (W := (setB w1.drew.drew B.d o).drew) hg2 (NoPts.map (e1.trans l1)) (by simp only [ne_eq, Option.some.injEq]; exact hne.2.1) ⟨es, clk, hh, hs, hc⟩
    ml := hm2 _ e1
    mq := by
      obtain ⟨es, clk, hh, r1⟩ := h.mq
      exact ⟨es, clk, ((setB_other (w := (setB w1.drew.drew B.d o).drew) o2 (fun e => hne.2.2.1 e.symm)).trans (setB_other (w := w1.drew.drew) o (fun e => hne.2.2.2.2.2 e.symm))).trans hh, r1⟩ }
theorem Mid.below {B : Blocks} {cv kv : Value} {n₀ : Nat} {w1 W3 : World} {st : St} {line r : Int} {ps : List Int} (hM : Mid B cv kv n₀ w1 W3 st line r ps) (h : StB B cv kv n₀ w1 st line) (hn : n₀ ≤ w1.heap.size) : Below n₀ w1 W3 where
  os := hM.os
  tape := hM.tape
  output := hM.output
  size := by rw [hM.size]; exact Nat.le_refl _
  block := fun k hk => hM.same k (by omega) (by have := h.base.2.2.2.2.1; omega) (by have := h.base.2.2.1; omega)
theorem Mid.bel {B : Blocks} {cv kv : Value} {n₀ : Nat} {w1 W3 : World} {st : St} {line r : Int} {ps : List Int} (hM : Mid B cv kv n₀ w1 W3 st line r ps) (h : StB B cv kv n₀ w1 st line) (hn : n₀ ≤ w1.heap.size) : Bel B n₀ w1 W3 :=
  ⟨hM.below h hn, fun k _ hk _ h2 _ h4 _ _ => (hM.same k (lt_of_block hk) h4 h2).trans hk⟩
theorem PtsB.cells1 {W : World} {g n c : Nat} {l : List Int} (h : PtsB W (.slice (some ⟨g, 1, none⟩) n c) l) : ∀ i y, l[i]? = some y → W.cell? ⟨g, 1 + i, none⟩ = some (.int .i32 y) := by
  obtain ⟨b, off, cap, cs, e, hh, _, _, hc⟩ := h
  injection e with e _ _
  injection e with e
  injection e with e1 e2 e3
  subst e1 e2
  intro i y hi
  rw [cell_of_row W g (1 + i) cs _ (0, 0) hh]
  exact hc i y hi
set_option maxHeartbeats 8000000 in
set_option maxRecDepth 100000 in
theorem dec_plain {B : Blocks} {cv kv : Value} {n₀ : Nat} {st : St} {line : Int} (v : Value) (w : World) (h : StB B cv kv n₀ w st line) (hn₀ : n₀ ≤ w.heap.size) (r : Int) (ps : List Int) (hp0 : 1 ≤ ps.length) (hp8 : ps.length ≤ 8) (hp2 : ps.length < 2 ∨ 2 < ps.length) (hs : Hid (SomeOk v w r ps)) (hl : lookD st.d.decomps r = none) (hr : r ∉ st.lines.map (·.1)) (hsy : Hid (SylAt r false)) (hja : Hid (JamAt r false)) :
    Calls Tryz.prog 67 #[.pointer (some ⟨B.x, 0, none⟩), v] w fun e w' => MethOut B n₀ line (.ok { d := { st.d with decomps := st.d.decomps ++ [(r, ps)] }, lines := st.lines ++ [(r, line)] }) e w' ∧ Bel B n₀ w w' := by
  have H := Lib.hid h
  have HL := Lib.hid hl
  have HR := Lib.hid hr
  clear h hl hr
  unfold SomeOk at hs
  go_enter Tryz.func67, Tryz.ntmps67
  go_wp2_with (go_at_call 111; refine hs.out.mono ?_; rintro e w1 ⟨⟨g, c, rfl, hc1, hc2, hg0, hpt⟩, hb⟩)
  have h1 := H.out.later hb
  have c1 : w1.cell? ⟨B.x, 0, none⟩ = some (.pointer (some ⟨B.p, 0, none⟩)) := by rw [cell_of_row w1 _ 0 _ _ (0, 0) h1.hx]; rfl
  have c2 : w1.cell? ⟨B.p, 3, none⟩ = some (.map (some B.d)) := by rw [cell_of_row w1 _ 3 _ _ (0, 0) h1.hp]; rfl
  obtain ⟨vl, _, hlk⟩ := look_pts h1.md.map r
  have hlk1 := (hlk w1.drew rfl).2
  rw [HL.out] at hlk1
  obtain ⟨W2, W3, hu2, hu3, hW2, hmid⟩ := mid_of h1 HL.out HR.out hpt
  have hnm := h1.nm
  have hgd : g < w1.heap.size ∧ g ≠ B.d ∧ g ≠ B.l := by
    obtain ⟨b', off', cap', cs', e', hh', _⟩ := hpt
    obtain ⟨_, _, d1, _⟩ := h1.md
    obtain ⟨_, _, l1, _⟩ := h1.ml
    injection e' with e' _ _
    injection e' with e'
    injection e' with e1 e2 e3
    subst e1
    exact ⟨lt_of_block hh', fun e => cells_not_map (e ▸ hh') d1, fun e => cells_not_map (e ▸ hh') l1⟩
  have d1 : W2.cell? ⟨B.x, 1, none⟩ = some (.map (some B.l)) := by rw [cell_of_row W2 _ 1 _ _ (0, 0) ((hW2 _ (lt_of_block h1.hx) hnm.2.1.2.2.1).trans h1.hx)]; rfl
  have d2 : W2.cell? ⟨B.x, 2, none⟩ = some (.int .i64 line) := by rw [cell_of_row W2 _ 2 _ _ (0, 0) ((hW2 _ (lt_of_block h1.hx) hnm.2.1.2.2.1).trans h1.hx)]; rfl
  have d3 : W2.cell? ⟨g, 0, none⟩ = some (.int .i32 r) := (World.cell?_of_block (a := ⟨g, 0, none⟩) (hW2 _ hgd.1 hgd.2.1)).trans hg0
  have H1 := Lib.hid h1
  have HM := Lib.hid hmid
  clear hlk h1 hpt hmid hW2 hgd hnm
  unfold maxLen at hc2
  have i1 : (0 : Int) ≤ (ps.length : Int) + 1 := by omega
  have i2 : (1 : Int) ≤ (ps.length : Int) + 1 := by omega
  have i3 : (ps.length : Int) + 1 ≤ (c : Int) := by omega
  have i4 : ¬ c = 1 := by omega
  have i5 : (0 : Int) < (ps.length : Int) + 1 := by omega
  have i6 : ((((ps.length + 1 : Nat) : Int)) == 3) = false := by simp; omega
  go_region
  go_wp2_with (first | (go_at_call 96; refine (hsy.out _).mono ?_; rintro e w2 ⟨rfl, hw2⟩; subst w2) | (go_at_call 97; refine (hja.out _).mono ?_; rintro e w2 ⟨rfl, hw2⟩; subst w2))
  go_region
  go_wp2
  go_region
  go_wp2
  go_ret
  refine ⟨⟨rfl, cv, kv, H1.out.decomp_put r ps (fun k hk k1 k2 _ => HM.out.same k hk k1 k2) HM.out.md HM.out.ml (HM.out.mq.other r ps (by omega))⟩, ?_⟩
  exact (Bel.of hb hn₀).trans (HM.out.bel H1.out (Nat.le_trans hn₀ hb.size))
theorem pair_close {B : Blocks} {cv kv : Value} {n₀ : Nat} {w1 W3 : World} {st : St} {line r a d : Int} (h : StB B cv kv n₀ w1 st line) (hM : Mid B cv kv n₀ w1 W3 st line r [a, d]) (hn : n₀ ≤ w1.heap.size) {W5 : World} (hg : W3.grownBy W5 (some B.q)) (hmq : MapPair W5 B.q (st.d.decomps ++ [(r, [a, d])])) :
    StB B cv kv n₀ W5 { d := { st.d with decomps := st.d.decomps ++ [(r, [a, d])] }, lines := st.lines ++ [(r, line)] } line ∧ Bel B n₀ w1 W5 := by
  obtain ⟨_, _, q1, _⟩ := hM.mq
  have hs := hM.size
  refine ⟨h.decomp_put r [a, d] (fun k hk k1 k2 k3 => (hg.block k (by omega) (by simp only [ne_eq, Option.some.injEq]; exact k3)).trans (hM.same k hk k1 k2)) (hM.md.grown hg (NoPts.map q1) (by simp only [ne_eq, Option.some.injEq]; exact fun e => h.ne.2.2.2.2.2 e.symm)) (hM.ml.grown hg (by simp only [ne_eq, Option.some.injEq]; exact fun e => h.ne.2.2.1 e.symm)) hmq, ?_⟩
  refine (hM.bel h hn).trans (Bel.by hg (by omega) (fun k e => by injection e with e; subst e; exact h.base.2.2.2.2.2) (fun k _ e _ => by injection e with e; exact .inr (.inr (.inr (.inr (.inl e.symm))))))
set_option maxHeartbeats 8000000 in
set_option maxRecDepth 100000 in
theorem dec_pair_new {B : Blocks} {cv kv : Value} {n₀ : Nat} {st : St} {line : Int} (v : Value) (w : World) (h : StB B cv kv n₀ w st line) (hn₀ : n₀ ≤ w.heap.size) (r a d : Int) (hs : Hid (SomeOk v w r [a, d])) (hlt : least st.d.decomps a d = none) (hl : lookD st.d.decomps r = none) (hr : r ∉ st.lines.map (·.1)) (hsy : Hid (SylAt r false)) (hja : Hid (JamAt r false)) :
    Calls Tryz.prog 67 #[.pointer (some ⟨B.x, 0, none⟩), v] w fun e w' => MethOut B n₀ line (.ok { d := { st.d with decomps := st.d.decomps ++ [(r, [a, d])] }, lines := st.lines ++ [(r, line)] }) e w' ∧ Bel B n₀ w w' := by
  have H := Lib.hid h
  have HL := Lib.hid hl
  have HR := Lib.hid hr
  have HE := Lib.hid hlt
  clear h hl hr hlt
  unfold SomeOk at hs
  go_enter Tryz.func67, Tryz.ntmps67
  go_wp2_with (go_at_call 111; refine hs.out.mono ?_; rintro e w1 ⟨⟨g, c, rfl, hc1, hc2, hg0, hpt⟩, hb⟩)
  have hpt2 := hpt.cells1
  replace hpt : PtsB w1 (.slice (some ⟨g, 1, none⟩) 2 (c - 1)) [a, d] := hpt
  have h1 := H.out.later hb
  have c1 : w1.cell? ⟨B.x, 0, none⟩ = some (.pointer (some ⟨B.p, 0, none⟩)) := by rw [cell_of_row w1 _ 0 _ _ (0, 0) h1.hx]; rfl
  have c2 : w1.cell? ⟨B.p, 3, none⟩ = some (.map (some B.d)) := by rw [cell_of_row w1 _ 3 _ _ (0, 0) h1.hp]; rfl
  obtain ⟨vl, _, hlk⟩ := look_pts h1.md.map r
  have hlk1 := (hlk w1.drew rfl).2
  rw [HL.out] at hlk1
  obtain ⟨W2, W3, hu2, hu3, hW2, hmid⟩ := mid_of h1 HL.out HR.out hpt
  have hnm := h1.nm
  have hgd : g < w1.heap.size ∧ g ≠ B.d ∧ g ≠ B.l := by
    obtain ⟨b', off', cap', cs', e', hh', _⟩ := hpt
    obtain ⟨_, _, d1, _⟩ := h1.md
    obtain ⟨_, _, l1, _⟩ := h1.ml
    injection e' with e' _ _
    injection e' with e'
    injection e' with e1 e2 e3
    subst e1
    exact ⟨lt_of_block hh', fun e => cells_not_map (e ▸ hh') d1, fun e => cells_not_map (e ▸ hh') l1⟩
  have d1 : W2.cell? ⟨B.x, 1, none⟩ = some (.map (some B.l)) := by rw [cell_of_row W2 _ 1 _ _ (0, 0) ((hW2 _ (lt_of_block h1.hx) hnm.2.1.2.2.1).trans h1.hx)]; rfl
  have d2 : W2.cell? ⟨B.x, 2, none⟩ = some (.int .i64 line) := by rw [cell_of_row W2 _ 2 _ _ (0, 0) ((hW2 _ (lt_of_block h1.hx) hnm.2.1.2.2.1).trans h1.hx)]; rfl
  have d3 : W2.cell? ⟨g, 0, none⟩ = some (.int .i32 r) := (World.cell?_of_block (a := ⟨g, 0, none⟩) (hW2 _ hgd.1 hgd.2.1)).trans hg0
  have e0 : W3.cell? ⟨g, 0, none⟩ = some (.int .i32 r) := (World.cell?_of_block (a := ⟨g, 0, none⟩) (hmid.same _ hgd.1 hgd.2.1 hgd.2.2)).trans hg0
  have e1 : W3.cell? ⟨g, 1, none⟩ = some (.int .i32 a) := (World.cell?_of_block (a := ⟨g, 1, none⟩) (hmid.same _ hgd.1 hgd.2.1 hgd.2.2)).trans (hpt2 0 _ rfl)
  have e2 : W3.cell? ⟨g, 2, none⟩ = some (.int .i32 d) := (World.cell?_of_block (a := ⟨g, 2, none⟩) (hmid.same _ hgd.1 hgd.2.1 hgd.2.2)).trans (hpt2 1 _ rfl)
  have e3 : W3.cell? ⟨B.x, 0, none⟩ = some (.pointer (some ⟨B.p, 0, none⟩)) := by rw [cell_of_row W3 _ 0 _ _ (0, 0) ((hmid.same _ (lt_of_block h1.hx) hnm.2.1.2.2.1 hnm.2.1.1).trans h1.hx)]; rfl
  have e4 : W3.cell? ⟨B.p, 4, none⟩ = some (.map (some B.q)) := by rw [cell_of_row W3 _ 4 _ _ (0, 0) ((hmid.same _ (lt_of_block h1.hp) hnm.2.2.2.2.1 hnm.2.2.1).trans h1.hp)]; rfl
  have f1 := Lib.cell?_alloc_some (.cells #[.int .i32 0, .int .i32 0] 151) e1
  have f2 := Lib.cell?_alloc_some (.cells #[.int .i32 0, .int .i32 0] 151) e2
  have k0 := Lib.cell?_alloc_some (.cells #[.int .i32 a, .int .i32 d] 151) e0
  have k3 := Lib.cell?_alloc_some (.cells #[.int .i32 a, .int .i32 d] 151) e3
  have k4 := Lib.cell?_alloc_some (.cells #[.int .i32 a, .int .i32 d] 151) e4
  have hq3 : (W3.alloc (.cells #[.int .i32 a, .int .i32 d] 151)).drew.drew.heap[B.q]? = W3.heap[B.q]? := by
    obtain ⟨_, _, q1, _⟩ := hmid.mq
    exact Below.heap_alloc W3 _ _ (lt_of_block q1)
  have hlq := look_pair hmid.mq.map a d (W3.alloc (.cells #[.int .i32 a, .int .i32 d] 151)).drew.drew hq3
  rw [HE.out] at hlq
  simp only at hlq
  obtain ⟨o5, hu5, hm5⟩ := hmid.mq.put r a d (fun m hm => by rw [HE.out] at hm; cases hm)
  obtain ⟨W5, hW5⟩ : ∃ W5, setB (W3.alloc (.cells #[.int .i32 a, .int .i32 d] 151)).drew.drew.drew B.q o5 = W5 := ⟨_, rfl⟩
  have hu6 := hu5 (W3.alloc (.cells #[.int .i32 a, .int .i32 d] 151)).drew.drew.drew hq3
  have hm6 := Lib.hid (hm5 (W3.alloc (.cells #[.int .i32 a, .int .i32 d] 151)).drew.drew.drew hq3)
  have hg5 : W3.grownBy W5 (some B.q) := by
    rw [← hW5]
    exact ⟨rfl, rfl, rfl, by rw [setB_size]; show _ ≤ (W3.alloc _).heap.size; simp, fun k hk hne => (setB_other (w := (W3.alloc _).drew.drew.drew) o5 (fun e => hne (by rw [e]))).trans (Below.heap_alloc W3 _ k hk)⟩
  rw [hW5] at hu6 hm6
  have HG := Lib.hid hg5
  clear hu5 hm5 hW5 hg5
  clear hq3
  have H1 := Lib.hid h1
  have HM := Lib.hid hmid
  clear hlk h1 hpt hmid hW2 hgd hnm hpt2
  simp only [List.length_cons, List.length_nil] at hc1
  unfold maxLen at hc2
  have i3 : (3 : Int) ≤ (c : Int) := by omega
  have i4 : ¬ c = 1 := by omega
  go_region
  go_wp2_with (first | (go_at_call 96; refine (hsy.out _).mono ?_; rintro e w2 ⟨rfl, hw2⟩; subst w2) | (go_at_call 97; refine (hja.out _).mono ?_; rintro e w2 ⟨rfl, hw2⟩; subst w2))
  go_region
  go_wp2
  go_region
  go_wp2
  go_region
  go_wp2
  go_region
  go_wp2
  go_region
  go_wp2
  go_ret
  have hE := pair_close H1.out HM.out (Nat.le_trans hn₀ hb.size) HG.out hm6.out
  exact ⟨⟨rfl, cv, kv, hE.1⟩, (Bel.of hb hn₀).trans hE.2⟩
set_option maxHeartbeats 8000000 in
set_option maxRecDepth 100000 in
theorem dec_pair_less {B : Blocks} {cv kv : Value} {n₀ : Nat} {st : St} {line : Int} (v : Value) (w : World) (h : StB B cv kv n₀ w st line) (hn₀ : n₀ ≤ w.heap.size) (r a d : Int) (hs : Hid (SomeOk v w r [a, d])) (m : Int) (hlt : least st.d.decomps a d = some m) (hrm : r < m) (hl : lookD st.d.decomps r = none) (hr : r ∉ st.lines.map (·.1)) (hsy : Hid (SylAt r false)) (hja : Hid (JamAt r false)) :
    Calls Tryz.prog 67 #[.pointer (some ⟨B.x, 0, none⟩), v] w fun e w' => MethOut B n₀ line (.ok { d := { st.d with decomps := st.d.decomps ++ [(r, [a, d])] }, lines := st.lines ++ [(r, line)] }) e w' ∧ Bel B n₀ w w' := by
  have H := Lib.hid h
  have HL := Lib.hid hl
  have HR := Lib.hid hr
  have HE := Lib.hid hlt
  clear h hl hr hlt
  unfold SomeOk at hs
  go_enter Tryz.func67, Tryz.ntmps67
  go_wp2_with (go_at_call 111; refine hs.out.mono ?_; rintro e w1 ⟨⟨g, c, rfl, hc1, hc2, hg0, hpt⟩, hb⟩)
  have hpt2 := hpt.cells1
  replace hpt : PtsB w1 (.slice (some ⟨g, 1, none⟩) 2 (c - 1)) [a, d] := hpt
  have h1 := H.out.later hb
  have c1 : w1.cell? ⟨B.x, 0, none⟩ = some (.pointer (some ⟨B.p, 0, none⟩)) := by rw [cell_of_row w1 _ 0 _ _ (0, 0) h1.hx]; rfl
  have c2 : w1.cell? ⟨B.p, 3, none⟩ = some (.map (some B.d)) := by rw [cell_of_row w1 _ 3 _ _ (0, 0) h1.hp]; rfl
  obtain ⟨vl, _, hlk⟩ := look_pts h1.md.map r
  have hlk1 := (hlk w1.drew rfl).2
  rw [HL.out] at hlk1
  obtain ⟨W2, W3, hu2, hu3, hW2, hmid⟩ := mid_of h1 HL.out HR.out hpt
  have hnm := h1.nm
  have hgd : g < w1.heap.size ∧ g ≠ B.d ∧ g ≠ B.l := by
    obtain ⟨b', off', cap', cs', e', hh', _⟩ := hpt
    obtain ⟨_, _, d1, _⟩ := h1.md
    obtain ⟨_, _, l1, _⟩ := h1.ml
    injection e' with e' _ _
    injection e' with e'
    injection e' with e1 e2 e3
    subst e1
    exact ⟨lt_of_block hh', fun e => cells_not_map (e ▸ hh') d1, fun e => cells_not_map (e ▸ hh') l1⟩
  have d1 : W2.cell? ⟨B.x, 1, none⟩ = some (.map (some B.l)) := by rw [cell_of_row W2 _ 1 _ _ (0, 0) ((hW2 _ (lt_of_block h1.hx) hnm.2.1.2.2.1).trans h1.hx)]; rfl
  have d2 : W2.cell? ⟨B.x, 2, none⟩ = some (.int .i64 line) := by rw [cell_of_row W2 _ 2 _ _ (0, 0) ((hW2 _ (lt_of_block h1.hx) hnm.2.1.2.2.1).trans h1.hx)]; rfl
  have d3 : W2.cell? ⟨g, 0, none⟩ = some (.int .i32 r) := (World.cell?_of_block (a := ⟨g, 0, none⟩) (hW2 _ hgd.1 hgd.2.1)).trans hg0
  have e0 : W3.cell? ⟨g, 0, none⟩ = some (.int .i32 r) := (World.cell?_of_block (a := ⟨g, 0, none⟩) (hmid.same _ hgd.1 hgd.2.1 hgd.2.2)).trans hg0
  have e1 : W3.cell? ⟨g, 1, none⟩ = some (.int .i32 a) := (World.cell?_of_block (a := ⟨g, 1, none⟩) (hmid.same _ hgd.1 hgd.2.1 hgd.2.2)).trans (hpt2 0 _ rfl)
  have e2 : W3.cell? ⟨g, 2, none⟩ = some (.int .i32 d) := (World.cell?_of_block (a := ⟨g, 2, none⟩) (hmid.same _ hgd.1 hgd.2.1 hgd.2.2)).trans (hpt2 1 _ rfl)
  have e3 : W3.cell? ⟨B.x, 0, none⟩ = some (.pointer (some ⟨B.p, 0, none⟩)) := by rw [cell_of_row W3 _ 0 _ _ (0, 0) ((hmid.same _ (lt_of_block h1.hx) hnm.2.1.2.2.1 hnm.2.1.1).trans h1.hx)]; rfl
  have e4 : W3.cell? ⟨B.p, 4, none⟩ = some (.map (some B.q)) := by rw [cell_of_row W3 _ 4 _ _ (0, 0) ((hmid.same _ (lt_of_block h1.hp) hnm.2.2.2.2.1 hnm.2.2.1).trans h1.hp)]; rfl
  have f1 := Lib.cell?_alloc_some (.cells #[.int .i32 0, .int .i32 0] 151) e1
  have f2 := Lib.cell?_alloc_some (.cells #[.int .i32 0, .int .i32 0] 151) e2
  have k0 := Lib.cell?_alloc_some (.cells #[.int .i32 a, .int .i32 d] 151) e0
  have k3 := Lib.cell?_alloc_some (.cells #[.int .i32 a, .int .i32 d] 151) e3
  have k4 := Lib.cell?_alloc_some (.cells #[.int .i32 a, .int .i32 d] 151) e4
  have hq3 : (W3.alloc (.cells #[.int .i32 a, .int .i32 d] 151)).drew.drew.heap[B.q]? = W3.heap[B.q]? := by
    obtain ⟨_, _, q1, _⟩ := hmid.mq
    exact Below.heap_alloc W3 _ _ (lt_of_block q1)
  have hlq := look_pair hmid.mq.map a d (W3.alloc (.cells #[.int .i32 a, .int .i32 d] 151)).drew.drew hq3
  rw [HE.out] at hlq
  simp only at hlq
  obtain ⟨o5, hu5, hm5⟩ := hmid.mq.put r a d (fun m' hm => by rw [HE.out] at hm; injection hm with hm; omega)
  obtain ⟨W5, hW5⟩ : ∃ W5, setB (W3.alloc (.cells #[.int .i32 a, .int .i32 d] 151)).drew.drew.drew B.q o5 = W5 := ⟨_, rfl⟩
  have hu6 := hu5 (W3.alloc (.cells #[.int .i32 a, .int .i32 d] 151)).drew.drew.drew hq3
  have hm6 := Lib.hid (hm5 (W3.alloc (.cells #[.int .i32 a, .int .i32 d] 151)).drew.drew.drew hq3)
  have hg5 : W3.grownBy W5 (some B.q) := by
    rw [← hW5]
    exact ⟨rfl, rfl, rfl, by rw [setB_size]; show _ ≤ (W3.alloc _).heap.size; simp, fun k hk hne => (setB_other (w := (W3.alloc _).drew.drew.drew) o5 (fun e => hne (by rw [e]))).trans (Below.heap_alloc W3 _ k hk)⟩
  rw [hW5] at hu6 hm6
  have HG := Lib.hid hg5
  clear hu5 hm5 hW5 hg5
  clear hq3
  have H1 := Lib.hid h1
  have HM := Lib.hid hmid
  clear hlk h1 hpt hmid hW2 hgd hnm hpt2
  simp only [List.length_cons, List.length_nil] at hc1
  unfold maxLen at hc2
  have i3 : (3 : Int) ≤ (c : Int) := by omega
  have i4 : ¬ c = 1 := by omega
  go_region
  go_wp2_with (first | (go_at_call 96; refine (hsy.out _).mono ?_; rintro e w2 ⟨rfl, hw2⟩; subst w2) | (go_at_call 97; refine (hja.out _).mono ?_; rintro e w2 ⟨rfl, hw2⟩; subst w2))
  go_region
  go_wp2
  go_region
  go_wp2
  go_region
  go_wp2
  go_region
  go_wp2
  go_region
  go_wp2
  go_ret
  have hE := pair_close H1.out HM.out (Nat.le_trans hn₀ hb.size) HG.out hm6.out
  exact ⟨⟨rfl, cv, kv, hE.1⟩, (Bel.of hb hn₀).trans hE.2⟩
set_option maxHeartbeats 8000000 in
set_option maxRecDepth 100000 in
theorem dec_pair_not {B : Blocks} {cv kv : Value} {n₀ : Nat} {st : St} {line : Int} (v : Value) (w : World) (h : StB B cv kv n₀ w st line) (hn₀ : n₀ ≤ w.heap.size) (r a d : Int) (hs : Hid (SomeOk v w r [a, d])) (m : Int) (hlt : least st.d.decomps a d = some m) (hrm : m ≤ r) (hl : lookD st.d.decomps r = none) (hr : r ∉ st.lines.map (·.1)) (hsy : Hid (SylAt r false)) (hja : Hid (JamAt r false)) :
    Calls Tryz.prog 67 #[.pointer (some ⟨B.x, 0, none⟩), v] w fun e w' => MethOut B n₀ line (.ok { d := { st.d with decomps := st.d.decomps ++ [(r, [a, d])] }, lines := st.lines ++ [(r, line)] }) e w' ∧ Bel B n₀ w w' := by
  have H := Lib.hid h
  have HL := Lib.hid hl
  have HR := Lib.hid hr
  have HE := Lib.hid hlt
  clear h hl hr hlt
  unfold SomeOk at hs
  go_enter Tryz.func67, Tryz.ntmps67
  go_wp2_with (go_at_call 111; refine hs.out.mono ?_; rintro e w1 ⟨⟨g, c, rfl, hc1, hc2, hg0, hpt⟩, hb⟩)
  have hpt2 := hpt.cells1
  replace hpt : PtsB w1 (.slice (some ⟨g, 1, none⟩) 2 (c - 1)) [a, d] := hpt
  have h1 := H.out.later hb
  have c1 : w1.cell? ⟨B.x, 0, none⟩ = some (.pointer (some ⟨B.p, 0, none⟩)) := by rw [cell_of_row w1 _ 0 _ _ (0, 0) h1.hx]; rfl
  have c2 : w1.cell? ⟨B.p, 3, none⟩ = some (.map (some B.d)) := by rw [cell_of_row w1 _ 3 _ _ (0, 0) h1.hp]; rfl
  obtain ⟨vl, _, hlk⟩ := look_pts h1.md.map r
  have hlk1 := (hlk w1.drew rfl).2
  rw [HL.out] at hlk1
  obtain ⟨W2, W3, hu2, hu3, hW2, hmid⟩ := mid_of h1 HL.out HR.out hpt
  have hnm := h1.nm
  have hgd : g < w1.heap.size ∧ g ≠ B.d ∧ g ≠ B.l := by
    obtain ⟨b', off', cap', cs', e', hh', _⟩ := hpt
    obtain ⟨_, _, d1, _⟩ := h1.md
    obtain ⟨_, _, l1, _⟩ := h1.ml
    injection e' with e' _ _
    injection e' with e'
    injection e' with e1 e2 e3
    subst e1
    exact ⟨lt_of_block hh', fun e => cells_not_map (e ▸ hh') d1, fun e => cells_not_map (e ▸ hh') l1⟩
  have d1 : W2.cell? ⟨B.x, 1, none⟩ = some (.map (some B.l)) := by rw [cell_of_row W2 _ 1 _ _ (0, 0) ((hW2 _ (lt_of_block h1.hx) hnm.2.1.2.2.1).trans h1.hx)]; rfl
  have d2 : W2.cell? ⟨B.x, 2, none⟩ = some (.int .i64 line) := by rw [cell_of_row W2 _ 2 _ _ (0, 0) ((hW2 _ (lt_of_block h1.hx) hnm.2.1.2.2.1).trans h1.hx)]; rfl
  have d3 : W2.cell? ⟨g, 0, none⟩ = some (.int .i32 r) := (World.cell?_of_block (a := ⟨g, 0, none⟩) (hW2 _ hgd.1 hgd.2.1)).trans hg0
  have e0 : W3.cell? ⟨g, 0, none⟩ = some (.int .i32 r) := (World.cell?_of_block (a := ⟨g, 0, none⟩) (hmid.same _ hgd.1 hgd.2.1 hgd.2.2)).trans hg0
  have e1 : W3.cell? ⟨g, 1, none⟩ = some (.int .i32 a) := (World.cell?_of_block (a := ⟨g, 1, none⟩) (hmid.same _ hgd.1 hgd.2.1 hgd.2.2)).trans (hpt2 0 _ rfl)
  have e2 : W3.cell? ⟨g, 2, none⟩ = some (.int .i32 d) := (World.cell?_of_block (a := ⟨g, 2, none⟩) (hmid.same _ hgd.1 hgd.2.1 hgd.2.2)).trans (hpt2 1 _ rfl)
  have e3 : W3.cell? ⟨B.x, 0, none⟩ = some (.pointer (some ⟨B.p, 0, none⟩)) := by rw [cell_of_row W3 _ 0 _ _ (0, 0) ((hmid.same _ (lt_of_block h1.hx) hnm.2.1.2.2.1 hnm.2.1.1).trans h1.hx)]; rfl
  have e4 : W3.cell? ⟨B.p, 4, none⟩ = some (.map (some B.q)) := by rw [cell_of_row W3 _ 4 _ _ (0, 0) ((hmid.same _ (lt_of_block h1.hp) hnm.2.2.2.2.1 hnm.2.2.1).trans h1.hp)]; rfl
  have f1 := Lib.cell?_alloc_some (.cells #[.int .i32 0, .int .i32 0] 151) e1
  have f2 := Lib.cell?_alloc_some (.cells #[.int .i32 0, .int .i32 0] 151) e2
  have k0 := Lib.cell?_alloc_some (.cells #[.int .i32 a, .int .i32 d] 151) e0
  have k3 := Lib.cell?_alloc_some (.cells #[.int .i32 a, .int .i32 d] 151) e3
  have k4 := Lib.cell?_alloc_some (.cells #[.int .i32 a, .int .i32 d] 151) e4
  have hq3 : (W3.alloc (.cells #[.int .i32 a, .int .i32 d] 151)).drew.drew.heap[B.q]? = W3.heap[B.q]? := by
    obtain ⟨_, _, q1, _⟩ := hmid.mq
    exact Below.heap_alloc W3 _ _ (lt_of_block q1)
  have hlq := look_pair hmid.mq.map a d (W3.alloc (.cells #[.int .i32 a, .int .i32 d] 151)).drew.drew hq3
  rw [HE.out] at hlq
  simp only at hlq
  have HG : Hid (W3.grownBy (W3.alloc (.cells #[.int .i32 a, .int .i32 d] 151)).drew.drew (some B.q)) := Lib.hid ⟨rfl, rfl, rfl, by show _ ≤ (W3.alloc _).heap.size; simp, fun k hk _ => Below.heap_alloc W3 _ k hk⟩
  have hm6 : Hid (MapPair (W3.alloc (.cells #[.int .i32 a, .int .i32 d] 151)).drew.drew B.q (st.d.decomps ++ [(r, [a, d])])) := by
    obtain ⟨es, clk, hh, r1⟩ := hmid.mq.more r a d m HE.out (by omega)
    exact Lib.hid ⟨es, clk, hq3.trans hh, r1⟩
  clear hq3
  have H1 := Lib.hid h1
  have HM := Lib.hid hmid
  clear hlk h1 hpt hmid hW2 hgd hnm hpt2
  simp only [List.length_cons, List.length_nil] at hc1
  unfold maxLen at hc2
  have i3 : (3 : Int) ≤ (c : Int) := by omega
  have i4 : ¬ c = 1 := by omega
  go_region
  go_wp2_with (first | (go_at_call 96; refine (hsy.out _).mono ?_; rintro e w2 ⟨rfl, hw2⟩; subst w2) | (go_at_call 97; refine (hja.out _).mono ?_; rintro e w2 ⟨rfl, hw2⟩; subst w2))
  go_region
  go_wp2
  go_region
  go_wp2
  go_region
  go_wp2
  go_region
  go_wp2
  go_ret
  have hE := pair_close H1.out HM.out (Nat.le_trans hn₀ hb.size) HG.out hm6.out
  exact ⟨⟨rfl, cv, kv, hE.1⟩, (Bel.of hb hn₀).trans hE.2⟩
end Go.Proofs.YtikpkjpnehkbfaaGreatDoor.Pr
namespace Go.Proofs.YtikpkjpnehkbfaaGreatDoor.Pr
open Go Go.RowKit Go.Shelf Go.Proofs.YtikpkjpnehkbfaaGreatDoor.Sp Go.Proofs.YtikpkjpnehkbfaaGreatDoor.Mapl Go.Proofs.YtikpkjpnehkbfaaGreatDoor.Rowl
theorem decGo_ge : ∀ (l : List UInt8) (n : Nat), n ≤ decGo l n
  | [], n => Nat.le_refl _
  | c :: l, n => by
    rw [decGo]
    have := decGo_ge l (10 * n + (c.toNat - 48))
    omega
theorem digit_iff (c : UInt8) : isDigit c = true ↔ 48 ≤ c.toNat ∧ c.toNat ≤ 57 := by
  unfold isDigit
  simp [UInt8.le_iff_toNat_le]
theorem parse10 : ∀ (l : List UInt8) (acc : Nat), l.all isDigit = true → (Lib.parseUint10 acc l = .ok (decGo l acc)) ∨ (Lib.parseUint10 acc l = .range ∧ 254 < decGo l acc)
  | [], acc, _ => .inl rfl
  | c :: l, acc, h => by
    simp only [List.all_cons, Bool.and_eq_true] at h
    have hc := (digit_iff c).1 h.1
    have hge := decGo_ge l (10 * acc + (c.toNat - 48))
    unfold Lib.parseUint10
    rw [if_pos hc, decGo]
    by_cases h1 : 1844674407370955162 ≤ acc
    · rw [if_pos h1]
      exact .inr ⟨rfl, by omega⟩
    · rw [if_neg h1]
      by_cases h2 : 18446744073709551616 ≤ acc * 10 + (c.toNat - 48)
      · rw [if_pos h2]
        exact .inr ⟨rfl, by omega⟩
      · rw [if_neg h2, show acc * 10 + (c.toNat - 48) = 10 * acc + (c.toNat - 48) by omega]
        exact parse10 l _ h.2
theorem atoi_digits {l : List UInt8} (h : l.all isDigit = true) (hn : l ≠ []) : (Lib.atoiAll l = .ok (decGo l 0)) ∨ (Lib.atoiAll l = .range ∧ 254 < decGo l 0) := by
  obtain ⟨c, r, rfl⟩ : ∃ c r, l = c :: r := by
    cases l with
    | nil => exact absurd rfl hn
    | cons c r => exact ⟨c, r, rfl⟩
  have hc : 48 ≤ c.toNat ∧ c.toNat ≤ 57 := by
    simp only [List.all_cons, Bool.and_eq_true] at h
    exact (digit_iff c).1 h.1
  have e1 : (if c.toNat = 43 ∨ c.toNat = 45 then r else c :: r) = c :: r := if_neg (by omega)
  have e2 : Lib.parseMag (c :: r) = Lib.parseUint10 0 (c :: r) := by
    unfold Lib.parseMag
    simp
  unfold Lib.atoiAll
  simp only [e1, e2]
  rcases parse10 (c :: r) 0 h with hp | ⟨hp, hb⟩
  · rw [hp]
    simp only
    by_cases hbig : 9223372036854775808 ≤ decGo (c :: r) 0
    · rw [if_pos ⟨by omega, hbig⟩]
      exact .inr ⟨rfl, by omega⟩
    · rw [if_neg (by omega), if_neg (by omega), if_neg (by omega)]
      exact .inl rfl
  · rw [hp]
    exact .inr ⟨rfl, hb⟩
def digSet : List UInt8 := [48, 49, 50, 51, 52, 53, 54, 55, 56, 57]
theorem digSet_val (c : UInt8) : digSet.contains c = isDigit c := by
  have h : ∀ n : Fin 256, digSet.contains (UInt8.ofNat n.val) = isDigit (UInt8.ofNat n.val) := by decide +kernel
  have := h ⟨c.toNat, c.toNat_lt⟩
  simpa using this
theorem trim_all (set l : List UInt8) : Lib.trimS l set = [] ↔ ∀ c ∈ l, set.contains c = true := by
  unfold Lib.trimS Lib.trimLeftS Lib.trimRightS
  rw [dropWhile_nil]
  constructor
  · intro h
    have h2 : l.reverse.dropWhile (fun x => set.contains x) = [] := by
      cases hd : l.reverse.dropWhile (fun x => set.contains x) with
      | nil => rfl
      | cons c r =>
        have hn := List.head_dropWhile_not (fun x => set.contains x) (l := l.reverse) (by rw [hd]; simp)
        have hc := h c (by rw [hd]; simp)
        simp only [hd, List.head_cons] at hn
        rw [hn] at hc
        cases hc
    rw [dropWhile_nil] at h2
    intro c hc
    exact h2 c (by simpa using hc)
  · intro h
    have h2 : l.reverse.dropWhile (fun x => set.contains x) = [] := by
      rw [dropWhile_nil]
      intro c hc
      exact h c (by simpa using hc)
    rw [h2]
    simp
theorem trim_digits (l : List UInt8) : Lib.trimS l digSet = [] ↔ l.all isDigit = true := by
  rw [trim_all, List.all_eq_true]
  simp only [digSet_val]
structure Vars (n₀ : Nat) (w : World) (m : Int) (ev : Value) : Prop where
  lt : 1 < n₀ ∧ 5 < n₀
  maxLen : w.cell? ⟨1, 0, none⟩ = some (.int .i64 m)
  range : w.cell? ⟨5, 0, none⟩ = some ev
  iface : ev = .nilIface ∨ ∃ te pe, ev = .iface te pe
theorem Vars.below {n₀ : Nat} {w w' : World} {m : Int} {ev : Value} (h : Vars n₀ w m ev) (hb : Below n₀ w w') : Vars n₀ w' m ev :=
  ⟨h.lt, (hb.cell (p := ⟨1, 0, none⟩) h.lt.1).trans h.maxLen, (hb.cell (p := ⟨5, 0, none⟩) h.lt.2).trans h.range, h.iface⟩
def AtoiOk (s : ByteArray) (v : Int) : Prop := ∀ W : World, Calls Tryz.prog 109 #[.string s] W fun e w' => e = .returned (.tuple #[.int .i64 v, .nilIface]) ∧ Below W.heap.size W w'
theorem atoiOk {s : ByteArray} {v : Int} (hs : s.size ≤ 1048576) (h : Lib.atoiAll s.data.toList = .ok v) : AtoiOk s v := fun W =>
  (Tryz.strconv_Atoi_ok s (by omega) v h W).mono fun e w' ⟨h1, h2⟩ => ⟨h1, by
    rcases h2 with rfl | ⟨t, rfl⟩
    · exact Below.refl _ _
    · exact Lib.bytesWorld_below W _ t⟩
def AtoiBad (s : ByteArray) (ev : Value) : Prop := ∀ W : World, W.cell? ⟨5, 0, none⟩ = some ev → Calls Tryz.prog 109 #[.string s] W fun e w' => (∃ v N, e = .returned (.tuple #[.int .i64 v, .iface 221 (.pointer (some ⟨N, 0, none⟩))])) ∧ Below W.heap.size W w'
theorem atoiBad {s : ByteArray} {ev : Value} (hs : s.size ≤ 1048576) (h : Lib.atoiAll s.data.toList = .range) (hev : ev = .nilIface ∨ ∃ te pe, ev = .iface te pe) : AtoiBad s ev := fun W hW =>
  (Tryz.strconv_Atoi_range s (by omega) h ev W hW hev).mono fun e w' ⟨N, h1, _, _, h2⟩ => ⟨⟨_, N, h1⟩, h2⟩
def TrimAt (s T : ByteArray) : Prop := ∀ W : World, Calls Tryz.prog 108 #[.string s, .string ⟨#[48, 49, 50, 51, 52, 53, 54, 55, 56, 57]⟩] W fun e w' => e = .returned (.string T) ∧ Below W.heap.size W w'
theorem trimAt {s : ByteArray} (hs : s.size ≤ 1048576) : TrimAt s ⟨(Lib.trimS s.data.toList digSet).toArray⟩ := fun W =>
  Any.strings_Trim_laid Tryz.lays160 (by kernel_rfl) s ⟨digSet.toArray⟩ W (by omega) (by decide) (ascii_of_all (by decide))
theorem byteArray_empty (l : List UInt8) : (⟨l.toArray⟩ : ByteArray).toList.isEmpty = l.isEmpty := by
  rw [Lib.toList_data]
end Go.Proofs.YtikpkjpnehkbfaaGreatDoor.Pr
namespace Go.Proofs.YtikpkjpnehkbfaaGreatDoor.Pr
open Go Go.RowKit Go.Shelf Go.Proofs.YtikpkjpnehkbfaaGreatDoor.Sp Go.Proofs.YtikpkjpnehkbfaaGreatDoor.Mapl Go.Proofs.YtikpkjpnehkbfaaGreatDoor.Rowl
def KM (W : World) (b : Nat) (K : Int → Option Int) : Prop :=
  ∃ (es : Array MapEntry) (clk : Nat), W.heap[b]? = some (.map es clk) ∧ (∀ e ∈ es.toList, ∃ r v, e.key = .int .i32 r ∧ e.val = .int .i64 v ∧ K r = some v) ∧
    (∀ r v, K r = some v → ∃ e ∈ es.toList, e.key = .int .i32 r) ∧ (es.toList.map (·.key)).Nodup
theorem KM.same {W W' : World} {b : Nat} {K : Int → Option Int} (h : KM W b K) (e : W'.heap[b]? = W.heap[b]?) : KM W' b K := by
  obtain ⟨es, clk, hh, r⟩ := h
  exact ⟨es, clk, e.trans hh, r⟩
theorem found_inv {f : Value → Bool} : ∀ (es : List MapEntry) (i : Nat), (found f es i = none ∧ ∀ e ∈ es, f e.key = false) ∨ ∃ j e, found f es i = some (i + j, e.val) ∧ es[j]? = some e ∧ f e.key = true
  | [], _ => .inl ⟨rfl, by simp⟩
  | e :: es, i => by
    cases he : f e.key with
    | true => exact .inr ⟨0, e, by unfold found; rw [he]; simp, rfl, he⟩
    | false =>
      have e1 : found f (e :: es) i = found f es (i + 1) := by rw [found, he]; simp
      rw [e1]
      rcases found_inv es (i + 1) with ⟨h1, h2⟩ | ⟨j, e', h1, h2, h3⟩
      · exact .inl ⟨h1, fun x hx => by
          rcases List.mem_cons.1 hx with rfl | hx
          · exact he
          · exact h2 x hx⟩
      · exact .inr ⟨j + 1, e', by rw [h1, show i + 1 + j = i + (j + 1) by omega], by simpa using h2, h3⟩
theorem keyI_true {r y : Int} : keyI .i32 r (.int .i32 y) = true ↔ r = y := by simp [keyI]
theorem KM.keys {es : Array MapEntry} {K : Int → Option Int} (h1 : ∀ e ∈ es.toList, ∃ r v, e.key = .int .i32 r ∧ e.val = .int .i64 v ∧ K r = some v) : ∀ e ∈ es.toList, ∃ y, e.key = .int .i32 y := fun e he => by
  obtain ⟨r, _, k, _⟩ := h1 e he
  exact ⟨r, k⟩
theorem zeroInt (w : World) : (zeroValue 3).run Tryz.prog w = .ok (.int .i64 0) w := by kernel_rfl
theorem KM.look {W : World} {b : Nat} {K : Int → Option Int} (h : KM W b K) (r : Int) (W' : World) (e : W'.heap[b]? = W.heap[b]?) :
    (Instr.lookup 94 (.map (some b)) (.int .i32 r) true).run Tryz.prog W' = .ok (.tuple #[.int .i64 ((K r).getD 0), .bool (K r).isSome]) W' ∧ (Instr.lookup 94 (.map (some b)) (.int .i32 r) false).run Tryz.prog W' = .ok (.int .i64 ((K r).getD 0)) W' := by
  obtain ⟨es, clk, hh, h1, h2, _⟩ := h
  have hl : ∀ ok : Bool, _ := fun ok => run_lookup (P := Tryz.prog) W' (t := 94) (keyI .i32 r) (.int .i32 r) Tryz.underlying94 (e.trans hh) (fun emp => check_int W' Tryz.underlying21 emp) (find_int W' Tryz.underlying21 es.toList (KM.keys h1)) _ (zeroInt W') ok
  rcases found_inv (f := keyI .i32 r) es.toList 0 with ⟨hf, hno⟩ | ⟨j, e', hf, he', hk⟩
  · have hn : K r = none := by
      cases hr : K r with
      | none => rfl
      | some v =>
        obtain ⟨e', he', hk⟩ := h2 r v hr
        have := hno e' he'
        rw [hk] at this
        simp [keyI] at this
    rw [hn]
    exact ⟨by rw [hl true, hf]; rfl, by rw [hl false, hf]; rfl⟩
  · obtain ⟨r', v, k1, k2, k3⟩ := h1 e' (List.mem_of_getElem? he')
    rw [k1] at hk
    obtain rfl := keyI_true.1 hk
    rw [k3]
    exact ⟨by rw [hl true, hf]; simp [k2], by rw [hl false, hf]; simp [k2]⟩
def KM.set (K : Int → Option Int) (r v : Int) : Int → Option Int := fun x => if x = r then some v else K x
theorem KM.put {W : World} {b : Nat} {K : Int → Option Int} (h : KM W b K) (r v : Int) :
    ∃ o : Obj, (∀ W', W'.heap[b]? = W.heap[b]? → (Instr.mapUpdate 94 (.map (some b)) (.int .i32 r) (.int .i64 v)).run Tryz.prog W' = .ok () (setB W' b o)) ∧ ∀ W', W'.heap[b]? = W.heap[b]? → KM (setB W' b o) b (KM.set K r v) := by
  obtain ⟨es, clk, hh, h1, h2, h3⟩ := h
  rcases found_inv (f := keyI .i32 r) es.toList 0 with ⟨hf, hno⟩ | ⟨j, e, hf, he, hk⟩
  · have hnk : ∀ e ∈ es.toList, e.key ≠ .int .i32 r := fun e he hk => by
      have := hno e he
      rw [hk] at this
      simp [keyI] at this
    refine ⟨.map (es.push { key := .int .i32 r, val := .int .i64 v, born := clk }) (clk + 1), fun W' hW => ?_, fun W' hW => ?_⟩
    · exact run_update_new W' (keyI .i32 r) (.int .i32 r) _ Tryz.underlying94 (hW.trans hh) (check_int W' Tryz.underlying21 false) (find_int W' Tryz.underlying21 es.toList (KM.keys h1)) hf
    · refine ⟨_, _, setB_same (hW.trans hh), fun e he => ?_, fun x y hx => ?_, ?_⟩
      · simp only [Array.toList_push, List.mem_append, List.mem_singleton] at he
        rcases he with he | rfl
        · obtain ⟨x, y, k1, k2, k3⟩ := h1 e he
          refine ⟨x, y, k1, k2, ?_⟩
          unfold KM.set
          rw [if_neg]
          · exact k3
          · rintro rfl
            exact hnk e he k1
        · exact ⟨r, v, rfl, rfl, by simp [KM.set]⟩
      · unfold KM.set at hx
        by_cases hxr : x = r
        · subst hxr
          exact ⟨_, by simp; exact .inr rfl, rfl⟩
        · rw [if_neg hxr] at hx
          obtain ⟨e, he, hk⟩ := h2 x y hx
          exact ⟨e, by simp [he], hk⟩
      · simp only [Array.toList_push, List.map_append, List.map_cons, List.map_nil]
        rw [List.nodup_append]
        refine ⟨h3, by simp, fun k hk1 k' hk2 => ?_⟩
        simp only [List.mem_singleton] at hk2
        subst hk2
        obtain ⟨e, he, rfl⟩ := List.mem_map.1 hk1
        exact hnk e he
  · obtain ⟨r', v', k1, k2, k3⟩ := h1 e (List.mem_of_getElem? he)
    rw [k1] at hk
    obtain rfl := keyI_true.1 hk
    have hes : es[j]? = some e := by rw [← Array.getElem?_toList]; exact he
    have hj : j < es.size := (Array.getElem?_eq_some_iff.1 hes).1
    rw [Nat.zero_add] at hf
    refine ⟨.map (es.modify j fun e => { e with key := .int .i32 r, val := .int .i64 v }) clk, fun W' hW => ?_, fun W' hW => ?_⟩
    · exact run_update_old W' (keyI .i32 r) (.int .i32 r) _ Tryz.underlying94 (hW.trans hh) (check_int W' Tryz.underlying21 false) (find_int W' Tryz.underlying21 es.toList (KM.keys h1)) j e.val e hf hes (by rw [k1]; simp [Instr.sameBits])
    · have hmod : (es.modify j fun e => { e with key := .int .i32 r, val := .int .i64 v }).toList = es.toList.set j { e with key := .int .i32 r, val := .int .i64 v } := by
        apply List.ext_getElem?
        intro i
        rw [Array.getElem?_toList, Array.getElem?_modify, List.getElem?_set]
        by_cases hij : j = i
        · subst hij
          rw [if_pos rfl, if_pos rfl, if_pos (by simpa using hj), hes]
          rfl
        · rw [if_neg hij, if_neg hij, Array.getElem?_toList]
      have hkeys : (es.toList.set j { e with key := .int .i32 r, val := .int .i64 v }).map (·.key) = es.toList.map (·.key) := by
        rw [List.map_set]
        apply List.ext_getElem?
        intro i
        rw [List.getElem?_set]
        by_cases hij : j = i
        · subst hij
          rw [if_pos rfl, if_pos (by simpa using hj), List.getElem?_map, he]
          simp [k1]
        · rw [if_neg hij]
      have hnd : ∀ {i : Nat} {e' : MapEntry}, es.toList[i]? = some e' → e'.key = .int .i32 r → i = j := fun {i e'} hi hk' =>
        (List.getElem?_inj (by have := (List.getElem?_eq_some_iff.1 hi).1; simpa using this) h3).1 (by rw [List.getElem?_map, List.getElem?_map, hi, he]; simp [k1, hk'])
      refine ⟨_, _, setB_same (hW.trans hh), fun e' he' => ?_, fun x y hx => ?_, ?_⟩
      · rw [hmod] at he'
        obtain ⟨i, hi⟩ := List.mem_iff_getElem?.1 he'
        rw [List.getElem?_set] at hi
        by_cases hij : j = i
        · rw [if_pos hij] at hi
          split at hi
          · injection hi with hi
            subst hi
            exact ⟨r, v, rfl, rfl, by simp [KM.set]⟩
          · cases hi
        · rw [if_neg hij] at hi
          obtain ⟨x, y, q1, q2, q3⟩ := h1 e' (List.mem_of_getElem? hi)
          refine ⟨x, y, q1, q2, ?_⟩
          unfold KM.set
          rw [if_neg]
          · exact q3
          · rintro rfl
            exact hij (hnd hi q1).symm
      · rw [hmod]
        unfold KM.set at hx
        by_cases hxr : x = r
        · subst hxr
          exact ⟨_, List.mem_iff_getElem?.2 ⟨j, by rw [List.getElem?_set, if_pos rfl, if_pos (by simpa using hj)]⟩, rfl⟩
        · rw [if_neg hxr] at hx
          obtain ⟨e', he', hk'⟩ := h2 x y hx
          obtain ⟨i, hi⟩ := List.mem_iff_getElem?.1 he'
          refine ⟨e', List.mem_iff_getElem?.2 ⟨i, ?_⟩, hk'⟩
          rw [List.getElem?_set, if_neg]
          · exact hi
          · rintro rfl
            rw [he] at hi
            injection hi with hi
            subst hi
            rw [k1] at hk'
            injection hk' with _ hk'
            exact hxr hk'.symm
      · rw [hmod, hkeys]
        exact h3
theorem KM.made (w : World) : KM (w.alloc (.map #[] 0)) w.heap.size (fun _ => none) := ⟨#[], 0, heap_alloc_new w _, by simp, by simp, by simp⟩
theorem rowsIn_of_own {n₀ : Nat} {W : World} {v : Value} {l : List Row} (h : W.ownsRow n₀ 162 3 v l.length (flat l)) : RowsIn W.heap.size W v l := by
  rcases h.2 with ⟨rfl, h0⟩ | ⟨g, cap, cur, rfl, _, hh, _⟩
  · exact .inl ⟨rfl, List.eq_nil_of_length_eq_zero h0⟩
  · refine .inr ⟨g, cap, rfl, lt_of_block hh, fun j u hu => ?_⟩
    have := h.cells (g := g) rfl j u hu
    rw [show ((⟨g, 0, none⟩ : Addr).add j) = ⟨g, j, none⟩ by (unfold Addr.add; split <;> simp_all)] at this
    exact this
theorem StB.props {B : Blocks} {cv kv : Value} {n₀ : Nat} {W : World} {st : St} {line : Int} (h : StB B cv kv n₀ W st line) (hok : StOk st) (h1 : st.d.classes.length ≤ 1048576) (h2 : st.d.kinds.length ≤ 1048576) : PropsAt W.heap.size W B.p st.d where
  lt := lt_of_block h.hp
  classes := ⟨cv, by rw [cell_of_row W _ 0 _ _ (0, 0) h.hp]; rfl, rowsIn_of_own h.hc⟩
  kinds := ⟨kv, by rw [cell_of_row W _ 1 _ _ (0, 0) h.hp]; rfl, rowsIn_of_own h.hk⟩
  folds := ⟨_, by rw [cell_of_row W _ 2 _ _ (0, 0) h.hp]; rfl, h.mf.map⟩
  decomps := ⟨_, by rw [cell_of_row W _ 3 _ _ (0, 0) h.hp]; rfl, h.md.map⟩
  pairs := ⟨_, by rw [cell_of_row W _ 4 _ _ (0, 0) h.hp]; rfl, h.mq.map⟩
  small := ⟨h1, h2, fun q hq => by have := hok.f8 q hq; omega, fun q hq => by have := (hok.d8 q hq).1; omega⟩
end Go.Proofs.YtikpkjpnehkbfaaGreatDoor.Pr
namespace Go.Proofs.YtikpkjpnehkbfaaGreatDoor.Pr
open Go Go.RowKit Go.Shelf Go.Proofs.YtikpkjpnehkbfaaGreatDoor.Sp Go.Proofs.YtikpkjpnehkbfaaGreatDoor.Mapl Go.Proofs.YtikpkjpnehkbfaaGreatDoor.Rowl
structure Inv (D : PD) (K : Int → Option Int) (S : Int → Prop) : Prop where
  zero : ∀ x, K x = some 0 ↔ S x
  full : ∀ x v, K x = some v → v ≠ 0 → ∃ n : Nat, v = n ∧ Full D x n
def Sub (K K' : Int → Option Int) : Prop := ∀ x v, K x = some v → v ≠ 0 → K' x = some v
noncomputable def left (D : PD) (K : Int → Option Int) : Nat := ((D.decomps.map (·.1)).filter fun x => (K x).isNone).length
noncomputable def meas (D : PD) (K : Int → Option Int) (r : Int) : Nat := if decompOf D r = [] then 0 else if isSyl r then 1 + 2 * left D K else 2 + 2 * left D K
def SizeOut (D : PD) (K : Int → Option Int) (S : Int → Prop) (b : Nat) (r : Int) (w' : World) (v : Int) : Prop :=
  (v = 0 ∧ ∀ n, ¬ Full D r n) ∨ ∃ (n : Nat) (K' : Int → Option Int), v = n ∧ Full D r n ∧ KM w' b K' ∧ Inv D K' S ∧ Sub K K' ∧ (∀ x, K x ≠ none → K' x ≠ none)
theorem filter_le {p q : Int → Bool} : ∀ (l : List Int), (∀ x ∈ l, q x = true → p x = true) → (l.filter q).length ≤ (l.filter p).length
  | [], _ => by simp
  | x :: l, h => by
    have ih := filter_le l (fun y hy => h y (by simp [hy]))
    rw [List.filter_cons, List.filter_cons]
    cases hq : q x with
    | true =>
      rw [h x (by simp) hq]
      simpa using ih
    | false =>
      cases hp : p x with
      | true => simp; omega
      | false => simpa using ih
theorem filter_lt {p q : Int → Bool} : ∀ (l : List Int), (∀ x ∈ l, q x = true → p x = true) → (∃ x ∈ l, p x = true ∧ q x = false) → (l.filter q).length < (l.filter p).length
  | [], _, ⟨x, hx, _⟩ => by simp at hx
  | x :: l, h, ⟨y, hy, hp, hq⟩ => by
    have ih := filter_le l (fun y hy => h y (by simp [hy]))
    rw [List.filter_cons, List.filter_cons]
    rcases List.mem_cons.1 hy with rfl | hy
    · rw [hp, hq]
      simp
      omega
    · have ih2 := filter_lt l (fun y hy => h y (by simp [hy])) ⟨y, hy, hp, hq⟩
      cases hq : q x with
      | true =>
        rw [h x (by simp) hq]
        simpa using ih2
      | false =>
        cases hp : p x with
        | true => simp; omega
        | false => simpa using ih2
theorem left_le {D : PD} {K K' : Int → Option Int} (h : ∀ x, K x ≠ none → K' x ≠ none) : left D K' ≤ left D K := by
  refine filter_le _ fun x _ hx => ?_
  cases hk : K x with
  | none => rfl
  | some v =>
    have := h x (by rw [hk]; simp)
    cases hk' : K' x with
    | none => exact absurd hk' this
    | some v' => rw [hk'] at hx; simp at hx
theorem left_set {D : PD} {K : Int → Option Int} {r v : Int} (hr : r ∈ D.decomps.map (·.1)) (hk : K r = none) : left D (KM.set K r v) < left D K := by
  refine filter_lt _ (fun x _ hx => ?_) ⟨r, hr, by rw [hk]; rfl, by simp [KM.set]⟩
  unfold KM.set at hx
  by_cases e : x = r
  · rw [if_pos e] at hx; simp at hx
  · rw [if_neg e] at hx; exact hx
theorem lookD_mem {l : List (Int × List Int)} {r : Int} {ps : List Int} (h : lookD l r = some ps) : r ∈ l.map (·.1) := by
  unfold lookD at h
  obtain ⟨p, hp, rfl⟩ := Option.map_eq_some_iff.1 h
  have h1 := List.mem_of_find?_eq_some hp
  have h2 := List.find?_some hp
  exact List.mem_map.2 ⟨p, h1, by simpa using h2⟩
theorem meas_child {st : St} (hok : StOk st) {K : Int → Option Int} {r q : Int} (hk : K r = none) (hq : q ∈ decompOf st.d r) {K' : Int → Option Int} (hs : ∀ x, KM.set K r 0 x ≠ none → K' x ≠ none) : meas st.d K' q < meas st.d K r := by
  have hne : decompOf st.d r ≠ [] := fun e => by rw [e] at hq; cases hq
  have hr : meas st.d K r = if isSyl r then 1 + 2 * left st.d K else 2 + 2 * left st.d K := by unfold meas; rw [if_neg hne]
  rw [hr]
  cases hsy : isSyl r with
  | true =>
    have hj : isJamo q = true ∧ isSyl q = false := by
      unfold decompOf at hq
      rw [hsy, if_pos rfl] at hq
      have h0 : 44032 ≤ r ∧ r < 55204 := by simpa [isSyl] using hsy
      unfold sylOf at hq
      simp only [List.mem_append, List.mem_cons, List.not_mem_nil, or_false] at hq
      rcases hq with (rfl | rfl) | hq
      · exact ⟨by simp [isJamo]; omega, by simp [isSyl]; omega⟩
      · exact ⟨by simp [isJamo]; omega, by simp [isSyl]; omega⟩
      · by_cases h28 : (r - 44032) % 28 = 0
        · rw [if_pos h28] at hq; cases hq
        · rw [if_neg h28] at hq
          simp only [List.mem_singleton] at hq
          subst hq
          exact ⟨by simp [isJamo]; omega, by simp [isSyl]; omega⟩
    have hd : decompOf st.d q = [] := by
      unfold decompOf
      rw [hj.2]
      cases hl : lookD st.d.decomps q with
      | none => rfl
      | some ps =>
        obtain ⟨p, hp, e⟩ := List.mem_map.1 (lookD_mem hl)
        have := (hok.plain p hp).2
        rw [e, hj.1] at this
        cases this
    unfold meas
    rw [if_pos hd, if_pos rfl]
    omega
  | false =>
    have hr : r ∈ st.d.decomps.map (·.1) := by
      unfold decompOf at hne
      rw [hsy] at hne
      cases hl : lookD st.d.decomps r with
      | none => rw [hl] at hne; exact absurd rfl hne
      | some ps => exact lookD_mem hl
    have h1 := left_set (v := 0) hr hk
    have h2 := left_le (D := st.d) hs
    rw [if_neg (by simp)]
    unfold meas
    split
    · omega
    · split <;> omega
theorem grown_weaken {W W' : World} (h : W.grownBy W' none) (r : Option Nat) : W.grownBy W' r := ⟨h.os, h.tape, h.output, h.size, fun k hk _ => h.block k hk (fun e => by cases e)⟩
def SizeAt (x b : Nat) (D : PD) (K : Int → Option Int) (S : Int → Prop) (q : Int) (w : World) : Prop :=
  Calls Tryz.prog 116 #[.pointer (some ⟨x, 0, none⟩), .int .i32 q, .map (some b)] w fun e w' => (∃ v : Int, e = .returned (.int .i64 v) ∧ SizeOut D K S b q w' v) ∧ w.grownBy w' (some b)
structure Apart (B : Blocks) (cv kv : Value) (b : Nat) : Prop where
  ne : b ≠ B.x ∧ b ≠ B.p ∧ b ≠ B.l ∧ b ≠ B.f ∧ b ≠ B.d ∧ b ≠ B.q ∧ cv.ownBlock ≠ some b ∧ kv.ownBlock ≠ some b
theorem StB.aside {B : Blocks} {cv kv : Value} {n₀ b : Nat} {W W' : World} {st : St} {line : Int} (h : StB B cv kv n₀ W st line) (ha : Apart B cv kv b) {K : Int → Option Int} (hk : KM W b K) (hg : W.grownBy W' (some b)) : StB B cv kv n₀ W' st line := by
  obtain ⟨es, clk, hh, _⟩ := hk
  exact h.grown hg (NoPts.map hh) (fun k e => by injection e with e; subst e; exact ha.ne)
set_option maxHeartbeats 8000000 in
set_option maxRecDepth 100000 in
theorem size_known {B : Blocks} {cv kv : Value} {n₀ b : Nat} {st : St} {line : Int} {K : Int → Option Int} {S : Int → Prop} (r : Int) (w : World) (h : StB B cv kv n₀ w st line) (hok : StOk st) (hm1 : st.d.classes.length ≤ 1048576) (hm2 : st.d.kinds.length ≤ 1048576) (hK : KM w b K) (hI : Inv st.d K S) (hS : ∀ x, S x → Leads st.d x r) (hend : K r ≠ none ∨ decompOf st.d r = []) :
    SizeAt B.x b st.d K S r w := by
  have hdc := Lib.hid (decomp_calls B.p st.d r w (h.props hok hm1 hm2))
  have c1 : w.cell? ⟨B.x, 0, none⟩ = some (.pointer (some ⟨B.p, 0, none⟩)) := by rw [cell_of_row w _ 0 _ _ (0, 0) h.hx]; rfl
  unfold SizeAt
  cases hr : K r with
  | none =>
    have hd : decompOf st.d r = [] := hend.resolve_left (by rw [hr]; simp)
    rw [hd] at hdc
    have hout : Hid (∀ w', w'.heap[b]? = w.heap[b]? → SizeOut st.d K S b r w' 1) := Lib.hid fun w' e => .inr ⟨1, K, rfl, Full.leaf hd, hK.same e, hI, fun _ _ h _ => h, fun _ h => h⟩
    have hl := fun W e => (hK.look r W e).1
    rw [hr] at hl
    have HL := Lib.hid hl
    have hbl : b < w.heap.size := by obtain ⟨_, _, hh, _⟩ := hK; exact lt_of_block hh
    clear hK hI hS hend h hd hl
    go_enter Tryz.func116, Tryz.ntmps116
    go_wp2_with (go_at_call 74; refine hdc.out.mono ?_; rintro e w1 ⟨v1, rfl, ho, hb⟩; obtain ⟨A1, C1, rfl⟩ := YtikpkjpnehkbfaaGreatDoor.Rowl.own_slice ho; have hl1 := HL.out w1 (hb.block b hbl))
    go_ret
    exact ⟨⟨1, rfl, hout.out w1 (hb.block b hbl)⟩, grown_weaken (grown_of_below hb) _⟩
  | some v =>
    have hl := fun W e => (hK.look r W e).1
    rw [hr] at hl
    have HL := Lib.hid hl
    have hbl : b < w.heap.size := by obtain ⟨_, _, hh, _⟩ := hK; exact lt_of_block hh
    have hv : (v = 0 ∧ 1 ≤ (decompOf st.d r).length ∧ ∀ n, ¬ Full st.d r n) ∨ (1 ≤ v ∧ ∃ n : Nat, v = n ∧ Full st.d r n) := by
      by_cases hv0 : v = 0
      · subst hv0
        have hl : Leads st.d r r := hS r ((hI.zero r).1 hr)
        refine .inl ⟨rfl, ?_, fun n => hl.loop n⟩
        rcases Nat.eq_zero_or_pos (decompOf st.d r).length with h0 | h0
        · have hnil : decompOf st.d r = [] := List.eq_nil_of_length_eq_zero h0
          exact absurd (Full.leaf hnil) (hl.loop 1)
        · exact h0
      · obtain ⟨n, e, hf⟩ := hI.full r v hr hv0
        exact .inr ⟨by have := hf.pos; omega, n, e, hf⟩
    have hout : Hid (∀ (v' : Int) w', v' = max v (1 - ((decompOf st.d r).length : Int)) → w'.heap[b]? = w.heap[b]? → SizeOut st.d K S b r w' v') := Lib.hid fun v' w' e1 e2 => by
      rcases hv with ⟨h0, h1, h2⟩ | ⟨h1, n, h2, h3⟩
      · exact .inl ⟨by omega, h2⟩
      · exact .inr ⟨n, K, by omega, h3, hK.same e2, hI, fun _ _ h _ => h, fun _ h => h⟩
    clear hK hI hS hend h hl hv
    generalize decompOf st.d r = l at *
    go_enter Tryz.func116, Tryz.ntmps116
    go_wp2_with (go_at_call 74; refine hdc.out.mono ?_; rintro e w1 ⟨v1, rfl, ho, hb⟩; obtain ⟨A1, C1, rfl⟩ := YtikpkjpnehkbfaaGreatDoor.Rowl.own_slice ho; have hl1 := HL.out w1 (hb.block b hbl); have hlen := YtikpkjpnehkbfaaGreatDoor.Rowl.own_len ho; unfold maxLen at hlen)
    go_ret
    exact ⟨⟨_, rfl, hout.out _ w1 rfl (hb.block b hbl)⟩, grown_weaken (grown_of_below hb) _⟩
theorem Inv.push {D : PD} {K : Int → Option Int} {S : Int → Prop} (h : Inv D K S) {r : Int} : Inv D (KM.set K r 0) (fun x => S x ∨ x = r) where
  zero := fun x => by
    unfold KM.set
    by_cases e : x = r
    · simp [e]
    · rw [if_neg e]
      simp [e, h.zero]
  full := fun x v hx hv => by
    unfold KM.set at hx
    by_cases e : x = r
    · rw [if_pos e] at hx; injection hx with hx; exact absurd hx.symm hv
    · rw [if_neg e] at hx; exact h.full x v hx hv
theorem Inv.pop {D : PD} {K : Int → Option Int} {S : Int → Prop} {r : Int} (h : Inv D K (fun x => S x ∨ x = r)) (hr : ¬ S r) {n : Nat} (hn : Full D r n) : Inv D (KM.set K r n) S where
  zero := fun x => by
    unfold KM.set
    by_cases e : x = r
    · subst e
      have := hn.pos
      simp only [if_true, Option.some.injEq]
      constructor
      · intro h0; omega
      · intro h0; exact absurd h0 hr
    · rw [if_neg e, h.zero]
      simp [e]
  full := fun x v hx hv => by
    unfold KM.set at hx
    by_cases e : x = r
    · rw [if_pos e] at hx; injection hx with hx; subst e; exact ⟨n, hx.symm, hn⟩
    · rw [if_neg e] at hx; exact h.full x v hx hv
structure Mids (D : PD) (K : Int → Option Int) (S : Int → Prop) (b : Nat) (r : Int) (W2 : World) (k a : Nat) (wr : World) (K' : Int → Option Int) : Prop where
  sums : Sums D 0 ((decompOf D r).take k) a
  km : KM wr b K'
  inv : Inv D K' (fun x => S x ∨ x = r)
  sub : Sub K K'
  more : ∀ x, KM.set K r 0 x ≠ none → K' x ≠ none
  grown : W2.grownBy wr (some b)
theorem sums_le {D : PD} {l : List Int} {a n : Nat} (h : Sums D a l n) : a ≤ 9 → n ≤ 9 := by
  induction h with
  | nil a => exact id
  | cons a b n q l _ _ ih => exact fun _ => ih (by omega)
theorem own_grown {w1 W2 : World} {w0 b : Nat} {l : List Int} {g c : Nat} (ho : OwnPts w0 w1 (.slice (some ⟨g, 0, none⟩) l.length c) l) (hg : w1.grownBy W2 (some b)) (hne : g ≠ b) : ∀ i x, l[i]? = some x → W2.cell? ⟨g, i, none⟩ = some (.int .i32 x) := by
  intro i x hi
  have hk := World.ownsRow.kept ho hg (.inr (by simp only [Value.ownBlock, ne_eq, Option.some.injEq]; exact hne))
  have := hk.cells (g := g) rfl i (.int .i32 x) (by unfold enc; rw [List.getElem?_map, hi]; rfl)
  rw [show ((⟨g, 0, none⟩ : Addr).add i) = ⟨g, i, none⟩ by (unfold Addr.add; split <;> simp_all)] at this
  exact this
theorem grown_trans' {a b c : World} {k : Nat} (h1 : a.grownBy b (some k)) (h2 : b.grownBy c (some k)) : a.grownBy c (some k) :=
  ⟨h2.os.trans h1.os, h2.tape.trans h1.tape, h2.output.trans h1.output, Nat.le_trans h1.size h2.size, fun i hi hn => (h2.block i (Nat.lt_of_lt_of_le hi h1.size) hn).trans (h1.block i hi hn)⟩
set_option maxHeartbeats 16000000 in
set_option maxRecDepth 100000 in
theorem size_go {B : Blocks} {cv kv : Value} {n₀ b : Nat} {st : St} {line : Int} (hok : StOk st) (hm1 : st.d.classes.length ≤ 1048576) (hm2 : st.d.kinds.length ≤ 1048576) (ha : Apart B cv kv b) : ∀ (c : Nat) (r : Int) (K : Int → Option Int) (S : Int → Prop) (w : World), meas st.d K r ≤ c → StB B cv kv n₀ w st line → KM w b K → Inv st.d K S → (∀ x, S x → Leads st.d x r) → SizeAt B.x b st.d K S r w := by
  intro c
  induction c using Nat.strongRecOn with
  | _ c ih =>
  intro r K S w hc h hK hI hS
  by_cases hend : K r ≠ none ∨ decompOf st.d r = []
  · exact size_known r w h hok hm1 hm2 hK hI hS hend
  have hr : K r = none := by
    cases e : K r with
    | none => rfl
    | some v => exact absurd (.inl (by rw [e]; simp)) hend
  have hd : decompOf st.d r ≠ [] := fun e => hend (.inr e)
  clear hend
  have hdc := Lib.hid (decomp_calls B.p st.d r w (h.props hok hm1 hm2))
  have c1 : w.cell? ⟨B.x, 0, none⟩ = some (.pointer (some ⟨B.p, 0, none⟩)) := by rw [cell_of_row w _ 0 _ _ (0, 0) h.hx]; rfl
  have hbl : b < w.heap.size := by obtain ⟨_, _, hh, _⟩ := hK; exact lt_of_block hh
  have hSr : ¬ S r := fun hs => by have := (hI.zero r).2 hs; rw [hr] at this; cases this
  have hlen8 : (decompOf st.d r).length ≤ 8 := by
    unfold decompOf
    split
    · unfold sylOf; simp; split <;> simp
    · cases hl : lookD st.d.decomps r with
      | none => simp
      | some ps =>
        unfold lookD at hl
        obtain ⟨p, hp, rfl⟩ := Option.map_eq_some_iff.1 hl
        exact (hok.d8 p (List.mem_of_find?_eq_some hp)).1
  -- the calls of the round
  have IH : Hid (∀ (q : Int) (K' : Int → Option Int) (wr : World), q ∈ decompOf st.d r → StB B cv kv n₀ wr st line → KM wr b K' → Inv st.d K' (fun x => S x ∨ x = r) → (∀ x, KM.set K r 0 x ≠ none → K' x ≠ none) → SizeAt B.x b st.d K' (fun x => S x ∨ x = r) q wr) := Lib.hid fun q K' wr hq hst hkm hinv hmore => by
    have hlt := meas_child hok hr hq hmore
    exact ih (meas st.d K' q) (by omega) q K' _ wr (Nat.le_refl _) hst hkm hinv (fun x hx => by
      rcases hx with hx | rfl
      · exact .more _ r q (hS x hx) hq
      · exact .one _ q hq)
  have HI := Lib.hid hI
  have HD := Lib.hid hd
  have HH := Lib.hid h
  have HK := Lib.hid hK
  have HR := Lib.hid hr
  have HSR := Lib.hid hSr
  clear ih hc hS hI hd h hK hr hSr
  unfold SizeAt
  obtain ⟨l, hl⟩ : ∃ l, decompOf st.d r = l := ⟨_, rfl⟩
  have HL := Lib.hid hl
  rw [hl] at hdc hlen8
  clear hl
  go_enter Tryz.func116, Tryz.ntmps116
  go_wp2_with fail
  go_at_call 74
  refine hdc.out.mono ?_
  rintro e w1 ⟨v1, rfl, ho, hb⟩
  have hlpos : 0 < l.length := List.length_pos_iff.2 (HL.out ▸ HD.out)
  obtain ⟨g, cap, rfl, hg1, hg2, _, _⟩ := YtikpkjpnehkbfaaGreatDoor.Rowl.own_some ho hlpos
  have hk1 := HK.out.same (hb.block b hbl)
  have hl1 := (hk1.look r w1 rfl).1
  rw [HR.out] at hl1
  obtain ⟨o, hu, hm⟩ := hk1.put r 0
  have hg2' := setB_grown w1 b o
  have hu1 := hu w1 rfl
  have hm1' := hm w1 rfl
  obtain ⟨W2, hW2⟩ : ∃ W2, setB w1 b o = W2 := ⟨_, rfl⟩
  rw [hW2] at hg2' hu1 hm1'
  have hgb : g ≠ b := by omega
  have HC := Lib.hid (own_grown ho hg2' hgb)
  have HST : Hid (StB B cv kv n₀ W2 st line) := Lib.hid ((HH.out.later hb).aside ha hk1 hg2')
  have HG : Hid (w.grownBy W2 (some b)) := Lib.hid (grown_trans' (grown_weaken (grown_of_below hb) _) hg2')
  have hgW : g < W2.heap.size := Nat.lt_of_lt_of_le hg2 hg2'.size
  have HM : Hid (Mids st.d K S b r W2 0 0 W2 (KM.set K r 0)) := Lib.hid {
    sums := .nil 0
    km := hm1'
    inv := HI.out.push
    sub := fun x v hx hv => by
      unfold KM.set
      rw [if_neg]
      · exact hx
      · rintro rfl
        rw [HR.out] at hx
        cases hx
    more := fun _ hx => hx
    grown := World.grownBy.refl _ _ }
  clear hu hm hm1' hg2' hW2 hk1 ho
  have hl0 : (((l.length : Nat) : Int) == 0) = false := beq_eq_false_iff_ne.2 (by omega)
  have h9 : ∀ (k a : Nat) (K' : Int → Option Int) (wr : World), Mids st.d K S b r W2 k a wr K' → a ≤ 9 := fun k a K' wr hm => sums_le hm.sums (by omega)
  have H9 := Lib.hid h9
  clear h9
  go_wp2
  go_loopw [10, 41] (fun va vk wr => ∃ (k a : Nat) (K' : Int → Option Int), vk = .int .i64 k ∧ k ≤ l.length ∧ va = .int .i64 a ∧ a ≤ 9 ∧ Hid (Mids st.d K S b r W2 k a wr K')) (fun _ vk _ => l.length - (intOf vk).toNat)
  case atStart => exact ⟨0, 0, _, rfl, Nat.zero_le _, rfl, by omega, HM⟩
  case round =>
    obtain ⟨k, a, K', rfl, hk, rfl, ha9, hM⟩ := hrel
    by_cases hlt : k < l.length
    · have hq : l[k]? = some l[k] := List.getElem?_eq_getElem hlt
      have hcw : wr.cell? ⟨g, k, none⟩ = some (.int .i32 l[k]) := (World.cell?_of_block (a := ⟨g, k, none⟩) (hM.out.grown.block g hgW (by simp only [ne_eq, Option.some.injEq]; exact hgb))).trans (HC.out k _ hq)
      have hst := HST.out.aside ha (b := b) (K := KM.set K r 0) HM.out.km hM.out.grown
      have hcall := Lib.hid (IH.out l[k] K' wr (by rw [HL.out]; exact List.getElem_mem hlt) hst hM.out.km hM.out.inv hM.out.more)
      unfold SizeAt at hcall
      have HQ := Lib.hid hq
      generalize l[k] = q at *
      clear hq hst
      go_wp2_with fail
      go_at_call 116
      refine hcall.out.mono ?_
      rintro e w3 ⟨⟨v, rfl, ⟨rfl, hno⟩ | ⟨n, K2, rfl, hf, hkm2, hinv2, hsub2, hmore2⟩⟩, hg3⟩
      · have HN : Hid (∀ n, ¬ Full st.d r n) := Lib.hid fun n => Leads.none (.one r q (by rw [HL.out]; exact List.mem_of_getElem? HQ.out)) hno n
        have HG3 : Hid (w.grownBy w3 (some b)) := Lib.hid (grown_trans' (grown_trans' HG.out hM.out.grown) hg3)
        clear hno hg3
        go_wp2
        go_ret
        exact ⟨⟨_, rfl, .inl ⟨rfl, HN.out⟩⟩, HG3.out⟩
      · have hpos := hf.pos
        have hn9 := hpos.2
        have hn1 := hpos.1
        have HM2 : Hid (Mids st.d K S b r W2 (k + 1) (min (a + n) 9) w3 K2) := Lib.hid {
          sums := by
            have e : (decompOf st.d r).take (k + 1) = (decompOf st.d r).take k ++ [q] := by
              rw [HL.out, List.take_add_one, HQ.out]
              rfl
            rw [e]
            exact hM.out.sums.snoc hf
          km := hkm2
          inv := hinv2
          sub := fun x v hx hv => hsub2 x v (hM.out.sub x v hx hv) hv
          more := fun x hx => hmore2 x (hM.out.more x hx)
          grown := grown_trans' hM.out.grown hg3 }
        clear hf hkm2 hinv2 hsub2 hmore2 hpos hg3
        have hn0 : ¬ (n : Int) = 0 := by omega
        go_wp2
        go_roundw
        case rel => exact ⟨k + 1, min (a + n) 9, K2, by go_num, by omega, by congr 1; omega, by omega, HM2⟩
        case measure => simp [intOf]; omega
    · have hke : k = l.length := by omega
      subst hke
      have hsums : Sums st.d 0 (decompOf st.d r) a := by
        have := hM.out.sums
        rw [List.take_of_length_le (by rw [HL.out]; exact Nat.le_refl _)] at this
        exact this
      have hfull := hsums.full HD.out
      obtain ⟨o5, hu5, hm5⟩ := hM.out.km.put r a
      obtain ⟨W5, hW5⟩ : ∃ W5, setB wr b o5 = W5 := ⟨_, rfl⟩
      have hu6 := hu5 wr rfl
      have hm6 := hm5 wr rfl
      have hg6 := setB_grown wr b o5
      rw [hW5] at hu6 hm6 hg6
      have HOUT : Hid (SizeOut st.d K S b r W5 a) := Lib.hid (by
        refine .inr ⟨a, _, rfl, hfull, hm6, hM.out.inv.pop HSR.out hfull, fun x v hx hv => ?_, fun x hx => ?_⟩
        · unfold KM.set
          rw [if_neg]
          · exact hM.out.sub x v hx hv
          · rintro rfl
            rw [HR.out] at hx
            cases hx
        · unfold KM.set
          by_cases e : x = r
          · rw [if_pos e]; simp
          · rw [if_neg e]
            exact hM.out.more x (by unfold KM.set; rw [if_neg e]; exact hx))
      have HG6 : Hid (w.grownBy W5 (some b)) := Lib.hid (grown_trans' (grown_trans' HG.out hM.out.grown) hg6)
      clear hsums hfull hu5 hm5 hm6 hg6 hW5
      go_wp2
      go_ret
      exact ⟨⟨_, rfl, HOUT.out⟩, HG6.out⟩
theorem size_calls {B : Blocks} {cv kv : Value} {n₀ b : Nat} {st : St} {line : Int} (hok : StOk st) (hm1 : st.d.classes.length ≤ 1048576) (hm2 : st.d.kinds.length ≤ 1048576) (ha : Apart B cv kv b) (r : Int) (K : Int → Option Int) (w : World) (h : StB B cv kv n₀ w st line) (hK : KM w b K) (hI : Inv st.d K (fun _ => False)) :
    SizeAt B.x b st.d K (fun _ => False) r w :=
  size_go hok hm1 hm2 ha _ r K _ w (Nat.le_refl _) h hK hI (fun _ h => h.elim)
end Go.Proofs.YtikpkjpnehkbfaaGreatDoor.Pr
namespace Go.Proofs.YtikpkjpnehkbfaaGreatDoor.Pr
open Go Go.RowKit Go.Shelf Go.Proofs.YtikpkjpnehkbfaaGreatDoor.Sp Go.Proofs.YtikpkjpnehkbfaaGreatDoor.Mapl Go.Proofs.YtikpkjpnehkbfaaGreatDoor.Rowl
def SortSaid : Prop := ∀ (n₀ : Nat) (v : Value) (l : List Int) (w : World), OwnPts n₀ w v l → l.length ≤ 1048576 → Calls Tryz.prog 115 #[v] w fun e w' =>
  e = .returned (.tuple #[]) ∧ OwnPts n₀ w' v (l.mergeSort fun x y => decide (x ≤ y)) ∧ w.grownBy w' v.ownBlock
def keyInt (e : MapEntry) : Int := match e.key with | .int _ x => x | _ => 0
theorem setBlock_eq (w : World) (b : Nat) (o : Obj) : Go.ChangeMaps.setBlock w b o = setB w b o := rfl
theorem left_list (es : Array MapEntry) (seen : Array Nat) : (leftOf es seen).toList = es.toList.filter fun e => !seen.contains e.born := by
  unfold leftOf
  exact Array.toList_filter ..
theorem left_perm {es : Array MapEntry} {seen : Array Nat} (hb : ∀ (i : Nat) (e : MapEntry), es[i]? = some e → e.born = i) {e : MapEntry} (he : e ∈ (leftOf es seen).toList) : (leftOf es seen).toList.Perm (e :: (leftOf es (seen.push e.born)).toList) := by
  have hnd : es.toList.Pairwise fun x y => x.born ≠ y.born := by
    rw [List.pairwise_iff_getElem]
    intro i j hi hj hij
    have h1 := hb i es.toList[i] (by rw [← Array.getElem?_toList]; exact List.getElem?_eq_getElem hi)
    have h2 := hb j es.toList[j] (by rw [← Array.getElem?_toList]; exact List.getElem?_eq_getElem hj)
    omega
  rw [left_list] at he ⊢
  rw [left_list]
  have gen : ∀ l : List MapEntry, l.Pairwise (fun x y => x.born ≠ y.born) → e ∈ l.filter (fun x => !seen.contains x.born) → (l.filter fun x => !seen.contains x.born).Perm (e :: l.filter fun x => !(seen.push e.born).contains x.born) := by
    intro l
    induction l with
    | nil => intro _ h; simp at h
    | cons x l ih =>
      intro hp he
      obtain ⟨hx, hp⟩ := List.pairwise_cons.1 hp
      have hpush : ∀ y : MapEntry, (!(seen.push e.born).contains y.born) = (!seen.contains y.born && !(y.born == e.born)) := fun y => by
        rw [contains_push, Bool.not_or]
      rw [List.filter_cons, List.filter_cons, hpush x]
      by_cases hxe : x = e
      · subst hxe
        have hs : seen.contains x.born = false := by
          have := (List.mem_filter.1 he).2
          simpa using this
        rw [hs]
        simp only [Bool.not_false, if_true, beq_self_eq_true, Bool.not_true, Bool.and_false, Bool.false_eq_true, if_false]
        refine List.Perm.cons _ ?_
        have : l.filter (fun y => !(seen.push x.born).contains y.born) = l.filter (fun y => !seen.contains y.born) := by
          apply List.filter_congr
          intro y hy
          rw [hpush y]
          have := hx y hy
          have hne : (y.born == x.born) = false := beq_eq_false_iff_ne.2 (fun e => this e.symm)
          rw [hne]
          simp
        rw [this]
      · have hel : e ∈ l.filter (fun y => !seen.contains y.born) := by
          have := List.mem_filter.1 he
          rcases List.mem_cons.1 this.1 with h | h
          · exact absurd h.symm hxe
          · exact List.mem_filter.2 ⟨h, this.2⟩
        have hbne : (x.born == e.born) = false := beq_eq_false_iff_ne.2 (hx e (List.mem_filter.1 hel).1)
        rw [hbne]
        simp only [Bool.not_false, Bool.and_true]
        cases hs : seen.contains x.born with
        | true => simpa using ih hp hel
        | false =>
          simp only [Bool.not_false, if_true]
          exact ((ih hp hel).cons x).trans (List.Perm.swap _ _ _)
  exact gen es.toList hnd he
structure Coll (W : World) (b r0 : Nat) (es : Array MapEntry) (seen : Array Nat) (l : List Int) : Prop where
  map : W.heap[b]? = some (.map es es.size)
  iter : W.heap[r0]? = some (.mapIter (some b) es.size seen es.size)
  perm : (l ++ (leftOf es seen).toList.map keyInt).Perm (es.toList.map keyInt)
theorem Coll.grown {W W' : World} {b r0 : Nat} {es : Array MapEntry} {seen : Array Nat} {l : List Int} (h : Coll W b r0 es seen l) {r : Option Nat} (hg : W.grownBy W' r) (h1 : r ≠ some b) (h2 : r ≠ some r0) : Coll W' b r0 es seen l :=
  ⟨(hg.block _ (lt_of_block h.map) (fun e => h1 e.symm)).trans h.map, (hg.block _ (lt_of_block h.iter) (fun e => h2 e.symm)).trans h.iter, h.perm⟩
theorem keys_lines {es : Array MapEntry} {ls : List (Int × Int)} (hs : es.size = ls.length) (hc : ∀ (i : Nat) (p : Int × Int), ls[i]? = some p → ∃ e : MapEntry, es[i]? = some e ∧ e.key = .int .i32 p.1 ∧ e.val = .int .i64 p.2) : es.toList.map keyInt = ls.map (·.1) := by
  apply List.ext_getElem?
  intro i
  rw [List.getElem?_map, List.getElem?_map]
  cases hi : ls[i]? with
  | none =>
    have : es.toList[i]? = none := by
      rw [List.getElem?_eq_none_iff] at hi ⊢
      simp
      omega
    rw [this]
    rfl
  | some p =>
    obtain ⟨e, h1, h2, _⟩ := hc i p hi
    rw [Array.getElem?_toList, h1]
    simp [keyInt, h2]
def EndsOut (st : St) (e : Ending) : Prop :=
  (e = .returned .nilIface ∧ ∀ p ∈ st.lines, badOf st.d p.1 = none) ∨
    ∃ p ∈ st.lines, ∃ no, badOf st.d p.1 = some no ∧ (∀ q ∈ st.lines, badOf st.d q.1 ≠ none → p.1 ≤ q.1) ∧ e = .returned (.iface 111 (.agg #[.int .i64 no, .int .i64 p.2, .int .i64 0]))
theorem MapInt.look {W : World} {b : Nat} {l : List (Int × Int)} (h : MapInt W b l) {p : Int × Int} (hp : p ∈ l) (hnd : (l.map (·.1)).Nodup) (W' : World) (e : W'.heap[b]? = W.heap[b]?) :
    (Instr.lookup 94 (.map (some b)) (.int .i32 p.1) false).run Tryz.prog W' = .ok (.int .i64 p.2) W' := by
  obtain ⟨es, clk, hh, hs, hc, _⟩ := h
  have hint : ∀ e ∈ es.toList, ∃ y, e.key = .int .i32 y := fun e he => by
    obtain ⟨p, _, k⟩ := int_keys hs hc e he
    exact ⟨_, k⟩
  have hl := run_lookup (P := Tryz.prog) W' (t := 94) (keyI .i32 p.1) (.int .i32 p.1) Tryz.underlying94 (e.trans hh) (fun emp => check_int W' Tryz.underlying21 emp) (find_int W' Tryz.underlying21 es.toList hint) _ (zeroInt W') false
  obtain ⟨i, hi⟩ := List.mem_iff_getElem?.1 hp
  obtain ⟨ei, e1, e2, e3⟩ := hc i p hi
  have hf := found_at (f := keyI .i32 p.1) (es := es.toList) (i := 0) (j := i) (e := ei) (by rw [Array.getElem?_toList]; exact e1) (by rw [e2]; simp [keyI]) (fun k e' hk he' => by
    rw [Array.getElem?_toList] at he'
    have hkl : k < l.length := by have := (Array.getElem?_eq_some_iff.1 he').1; omega
    obtain ⟨e'', h1, h2, _⟩ := hc k l[k] (List.getElem?_eq_getElem hkl)
    have h1 : e' = e'' := Option.some.inj (he'.symm.trans h1)
    subst h1
    rw [h2]
    simp only [keyI, beq_self_eq_true, Bool.true_and, beq_eq_false_iff_ne, ne_eq]
    intro hx
    have hi2 : i < l.length := (List.getElem?_eq_some_iff.1 hi).1
    have h5 : (l.map (·.1))[k]? = (l.map (·.1))[i]? := by
      rw [List.getElem?_map, List.getElem?_map, hi, List.getElem?_eq_getElem hkl]
      simp [hx]
    have h6 := (List.getElem?_inj (by simpa using hkl) hnd).1 h5
    exact absurd h6 (Nat.ne_of_lt hk))
  rw [hl, hf]
  simp [e3]
structure Rest (st : St) (ks : List Int) (bk : Nat) (W : World) (k : Nat) (wr : World) (K : Int → Option Int) : Prop where
  km : KM wr bk K
  inv : Inv st.d K (fun _ => False)
  grown : W.grownBy wr (some bk)
  good : ∀ x ∈ ks.take k, badOf st.d x = none
theorem KM.inv0 (D : PD) : Inv D (fun _ => none) (fun _ => False) := ⟨by simp, by simp⟩
theorem ends_all {st : St} {ks : List Int} (hp : ks.Perm (st.lines.map (·.1))) (h : ∀ x ∈ ks, badOf st.d x = none) : ∀ p ∈ st.lines, badOf st.d p.1 = none :=
  fun p hp' => h _ (hp.mem_iff.2 (List.mem_map.2 ⟨p, hp', rfl⟩))
theorem ends_one {st : St} {ks : List Int} (hp : ks.Perm (st.lines.map (·.1))) (hs : ks.Pairwise (· ≤ ·)) {k : Nat} {x : Int} (hx : ks[k]? = some x) (hg : ∀ y ∈ ks.take k, badOf st.d y = none) {p : Int × Int} (hp1 : p ∈ st.lines) (hpx : p.1 = x) {no : Int} (hb : badOf st.d x = some no) :
    EndsOut st (.returned (.iface 111 (.agg #[.int .i64 no, .int .i64 p.2, .int .i64 0]))) := by
  refine .inr ⟨p, hp1, no, by rw [hpx]; exact hb, fun q hq hbad => ?_, rfl⟩
  have hq1 : q.1 ∈ ks := hp.mem_iff.2 (List.mem_map.2 ⟨q, hq, rfl⟩)
  obtain ⟨j, hj⟩ := List.mem_iff_getElem?.1 hq1
  rw [hpx]
  have hjk : k ≤ j := by
    apply Nat.le_of_not_lt
    intro hlt
    exact hbad (hg _ (List.mem_iff_getElem?.2 ⟨j, by rw [List.getElem?_take_of_lt hlt]; exact hj⟩))
  by_cases e : k = j
  · subst e
    rw [hx] at hj
    injection hj with hj
    omega
  · obtain ⟨h1, e1⟩ := List.getElem?_eq_some_iff.1 hx
    obtain ⟨h2, e2⟩ := List.getElem?_eq_some_iff.1 hj
    have := List.pairwise_iff_getElem.1 hs k j h1 h2 (by omega)
    omega
theorem take_snoc_good {D : PD} {ks : List Int} {k : Nat} {x : Int} (hx : ks[k]? = some x) (hg : ∀ y ∈ ks.take k, badOf D y = none) (hb : badOf D x = none) : ∀ y ∈ ks.take (k + 1), badOf D y = none := by
  intro y hy
  rw [List.take_add_one, hx] at hy
  simp only [Option.toList, List.mem_append, List.mem_singleton] at hy
  rcases hy with hy | rfl
  · exact hg y hy
  · exact hb
theorem w64 (n : Int) (h0 : 0 ≤ n) (h1 : n < 9223372036854775808) : wrap64 n = n := by unfold wrap64; omega
theorem make_known (w : World) : (Instr.makeMap 94 none).run Tryz.prog w = .ok (.map (some w.heap.size)) (w.alloc (.map #[] 0)) := by kernel_rfl
set_option maxHeartbeats 16000000 in
set_option maxRecDepth 100000 in
theorem ends_calls (SS : SortSaid) {B : Blocks} {cv kv : Value} {n₀ : Nat} {st : St} {line : Int} (hok : StOk st) (hm1 : st.d.classes.length ≤ 1048576) (hm2 : st.d.kinds.length ≤ 1048576) (hl0 : st.lines.length ≤ 1048576) (w : World) (h : StB B cv kv n₀ w st line) :
    Calls Tryz.prog 73 #[.pointer (some ⟨B.x, 0, none⟩)] w fun e w' => EndsOut st e ∧ Below w.heap.size w w' := by
  obtain ⟨ii, hi, hz0, hz1, hz2⟩ := info_parts infoRune
  obtain ⟨es, clk, hmap, hsz, hc, rfl, hborn⟩ := h.ml
  have hrg := run_range_map (P := Tryz.prog) w 94 _ _ B.l es es.size Tryz.underlying94 hmap
  have c1 : w.cell? ⟨B.x, 1, none⟩ = some (.map (some B.l)) := by rw [cell_of_row w _ 1 _ _ (0, 0) h.hx]; rfl
  have hkeys := keys_lines hsz hc
  have hold : ∀ x ∈ es.toList, x.born < es.size := fun x hx => by
    obtain ⟨i, hi⟩ := List.mem_iff_getElem?.1 hx
    rw [Array.getElem?_toList] at hi
    rw [hborn i x hi]
    exact (Array.getElem?_eq_some_iff.1 hi).1
  have hbnd : (es.toList.map (·.born)).Nodup := by
    rw [List.nodup_iff_pairwise_ne, List.pairwise_map, List.pairwise_iff_getElem]
    intro i j hi1 hj1 hij
    have e1 := hborn i es.toList[i] (by rw [← Array.getElem?_toList]; exact List.getElem?_eq_getElem hi1)
    have e2 := hborn j es.toList[j] (by rw [← Array.getElem?_toList]; exact List.getElem?_eq_getElem hj1)
    omega
  have hnd : (st.lines.map (·.1)).Nodup := by rw [hok.keys]; exact hok.nodup
  have hint : ∀ e ∈ es.toList, ∃ y z, e.key = .int .i32 y ∧ e.val = .int .i64 z := fun e he => by
    obtain ⟨i, hi⟩ := List.mem_iff_getElem?.1 he
    rw [Array.getElem?_toList] at hi
    have hil : i < st.lines.length := by have := (Array.getElem?_eq_some_iff.1 hi).1; omega
    obtain ⟨e', h1, h2, h3⟩ := hc i st.lines[i] (List.getElem?_eq_getElem hil)
    rw [hi] at h1
    injection h1 with h1
    subst h1
    exact ⟨_, _, h2, h3⟩
  have hlt : B.l < w.heap.size := lt_of_block hmap
  have HH := Lib.hid h
  have HC0 : Hid (Coll (w.alloc (.mapIter (some B.l) es.size #[] es.size)) B.l w.heap.size es #[] []) := Lib.hid {
    map := by rw [((Below.refl _ w).alloc (Nat.le_refl _) _).block _ hlt]; exact hmap
    iter := heap_alloc_new w _
    perm := by
      have : (leftOf es #[]).toList = es.toList := by rw [left_list]; simp
      rw [this]
      exact List.Perm.refl _ }
  have HKEYS := Lib.hid hkeys
  have HBORN := Lib.hid hborn
  have HINT := Lib.hid hint
  have HND := Lib.hid hnd
  have HOLD := Lib.hid hold
  have HBND := Lib.hid hbnd
  have HSZ := Lib.hid hsz
  clear h hkeys hborn hint hnd hold hbnd hc hsz
  go_enter Tryz.func73, Tryz.ntmps73
  go_wp2
  go_loopw [3] (fun vl wr => ∃ (l : List Int) (seen : Array Nat), wr.ownsRow (w.heap.size + 1) 21 1 vl l.length (enc l) ∧ Below w.heap.size w wr ∧ w.heap.size + 1 ≤ wr.heap.size ∧ Hid (Coll wr B.l w.heap.size es seen l)) (fun _ wr => (leftOf es (wr.iterSeen w.heap.size)).size)
  case atStart => exact ⟨[], #[], ⟨rfl, .inl ⟨rfl, rfl⟩⟩, (Below.refl _ _).alloc (Nat.le_refl _) _, by simp, HC0⟩
  case round =>
    obtain ⟨l, seen, hown, hB, hS, hC⟩ := hrel
    have hll : l.length ≤ st.lines.length := by
      have := hC.out.perm.length_eq
      rw [HKEYS.out] at this
      simp at this
      omega
    rcases run_next_at (P := Tryz.prog) wr 0 w.heap.size B.l es.size es.size seen es es.size hC.out.iter hC.out.map HOLD.out (Nat.le_refl _) with ⟨h0, hrun⟩ | ⟨e, he, w1, hal, hrun⟩
    · have hnx : ∀ ty, (Instr.next (.pointer (some ⟨w.heap.size, 0, none⟩)) false ty).run Tryz.prog wr = _ := fun _ => hrun
      have hperm : l.Perm (st.lines.map (·.1)) := by
        have := hC.out.perm
        rw [HKEYS.out, Array.eq_empty_of_size_eq_zero h0] at this
        simpa using this
      have hlen : l.length = st.lines.length := by have := hperm.length_eq; simpa using this
      have HP := Lib.hid hperm
      have HSORT := Lib.hid (SS (w.heap.size + 1) _ l wr hown (by omega))
      have HOW := Lib.hid hown
      clear hperm hrun h0
      obtain ⟨A1, C1, rfl⟩ := YtikpkjpnehkbfaaGreatDoor.Rowl.own_slice hown
      clear hown
      have HLB : Hid (l.length ≤ 1048576) := Lib.hid (by omega)
      clear hll hlen
      go_wp2_with fail
      refine HSORT.out.mono ?_
      rintro e w3 ⟨rfl, hown3, hg3⟩
      obtain ⟨ks, hks⟩ : ∃ ks, (l.mergeSort fun x y => decide (x ≤ y)) = ks := ⟨_, rfl⟩
      rw [hks] at hown3
      have hkp : ks.Perm l := by rw [← hks]; exact List.mergeSort_perm l _
      have hkl : ks.length = l.length := hkp.length_eq
      have HKS : Hid (ks.Pairwise (· ≤ ·)) := Lib.hid (by
        rw [← hks]
        have := List.pairwise_mergeSort (le := fun x y : Int => decide (x ≤ y)) (fun a b c h1 h2 => by simp at *; omega) (fun a b => by simp; omega) l
        exact this.imp (fun h => by simpa using h))
      have hown4 : w3.ownsRow (w.heap.size + 1) 21 1 (.slice A1 l.length C1) l.length (enc ks) := by have := hown3; unfold OwnPts at this; rw [hkl] at this; exact this
      have hB3 : Below w.heap.size w w3 := hB.grown hg3 hB.size (fun j hj => by have := (hown4.lt j hj).1; omega)
      have HKP : Hid (ks.Perm (st.lines.map (·.1))) := Lib.hid (hkp.trans HP.out)
      clear hg3 hown3 HSORT HOW hks hkp HC0 hC
      have hmk := make_known w3
      have hz3 : w.heap.size ≤ w3.heap.size := hB3.size
      have HM : Hid (Rest st ks w3.heap.size (w3.alloc (.map #[] 0)) 0 (w3.alloc (.map #[] 0)) (fun _ => none)) := Lib.hid {
        km := KM.made w3
        inv := KM.inv0 st.d
        grown := World.grownBy.refl _ _
        good := by simp }
      have hAP : Apart B cv kv w3.heap.size := by
        have hx := lt_of_block HH.out.hx
        have hp := lt_of_block HH.out.hp
        obtain ⟨_, _, hf, _⟩ := HH.out.mf
        obtain ⟨_, _, hd, _⟩ := HH.out.md
        obtain ⟨_, _, hq, _⟩ := HH.out.mq
        have hf := lt_of_block hf
        have hd := lt_of_block hd
        have hq := lt_of_block hq
        refine ⟨by omega, by omega, by omega, by omega, by omega, by omega, fun e => ?_, fun e => ?_⟩
        · obtain ⟨_, _, hh⟩ := own_block HH.out.hc e
          have := lt_of_block hh
          omega
        · obtain ⟨_, _, hh⟩ := own_block HH.out.hk e
          have := lt_of_block hh
          omega
      have HAP := Lib.hid hAP
      have hB4 : Below w.heap.size w (w3.alloc (.map #[] 0)) := hB3.alloc hz3 _
      have hown5 := World.ownsRow.kept hown4 (World.grownBy_alloc w3 (.map #[] 0) none) (by cases (Value.slice A1 l.length C1).ownBlock <;> simp)
      have hown6 : ∀ W, (w3.alloc (.map #[] 0)).grownBy W (some w3.heap.size) → W.ownsRow (w.heap.size + 1) 21 1 (.slice A1 l.length C1) l.length (enc ks) := fun W hg => World.ownsRow.kept hown5 hg (.inr (fun e => by
        have := (hown4.lt _ e).2
        omega))
      have HOWN := Lib.hid hown6
      clear hAP hown4 hown5 hown6 hB hS
      go_wp2
      go_loopw [27] (fun vi wr => ∃ (k : Nat) (K : Int → Option Int), vi = .int .i64 k ∧ k ≤ l.length ∧ Hid (Rest st ks w3.heap.size (w3.alloc (.map #[] 0)) k wr K)) (fun vi _ => l.length - (intOf vi).toNat)
      case atStart => exact ⟨0, _, rfl, Nat.zero_le _, HM⟩
      case round =>
        obtain ⟨k, K, rfl, hk, hR⟩ := hrel
        have hsz4 : w.heap.size ≤ (w3.alloc (.map #[] 0)).heap.size := hB4.size
        have hBr : Below w.heap.size w wr := hB4.grown hR.out.grown hsz4 (fun j hj => by injection hj with hj; omega)
        by_cases hkl2 : k < l.length
        · obtain ⟨x, hx⟩ : ∃ x, ks[k]? = some x := ⟨_, List.getElem?_eq_getElem (by omega)⟩
          have hownr := HOWN.out wr hR.out.grown
          obtain ⟨g, c, hv, hg1, hg2, hg3, hg4⟩ := YtikpkjpnehkbfaaGreatDoor.Rowl.own_some hownr (by omega)
          injection hv with hv1 hv2 hv3
          subst hv1
          have hcx := hownr.cells (g := g) rfl k (.int .i32 x) (by unfold enc; rw [List.getElem?_map, hx]; rfl)
          rw [show ((⟨g, 0, none⟩ : Addr).add k) = ⟨g, k, none⟩ by (unfold Addr.add; split <;> simp_all)] at hcx
          have HSC := Lib.hid (size_calls hok hm1 hm2 HAP.out x K wr (HH.out.later hBr) hR.out.km hR.out.inv)
          obtain ⟨p, hp, hpx⟩ := List.mem_map.1 (HKP.out.mem_iff.1 (List.mem_of_getElem? hx))
          have HLK : Hid (∀ W', Below w.heap.size w W' → (Instr.lookup 94 (.map (some B.l)) (.int .i32 x) false).run Tryz.prog W' = .ok (.int .i64 p.2) W') := Lib.hid fun W' hb => by
            rw [← hpx]
            exact MapInt.look HH.out.ml hp HND.out W' (hb.block _ hlt)
          have HX := Lib.hid hx
          have HP1 := Lib.hid hp
          have HPX := Lib.hid hpx
          clear hx hp hpx hownr hv2 hv3
          unfold SizeAt at HSC
          go_wp2_with fail
          refine HSC.out.mono ?_
          rintro e w5 ⟨⟨v, rfl, ho⟩, hg5⟩
          have hB5 : Below w.heap.size w w5 := hBr.grown hg5 hBr.size (fun j hj => by injection hj with hj; omega)
          have c15 : w5.cell? ⟨B.x, 1, none⟩ = some (.map (some B.l)) := (hB5.cell (lt_of_block HH.out.hx)).trans c1
          have hlk := HLK.out w5 hB5
          rcases ho with ⟨rfl, hno⟩ | ⟨n, K2, rfl, hf, hkm2, hinv2, _, _⟩
          · have HO := Lib.hid (ends_one HKP.out HKS.out HX.out hR.out.good HP1.out HPX.out (badOf_loop hno))
            clear hno
            go_wp2
            go_ret
            exact ⟨HO.out, hB5⟩
          · have hpos := hf.pos
            have hn9 := hpos.2
            have hn1 := hpos.1
            have hn0 : ¬ (n : Int) = 0 := by omega
            have hn0' : ((n : Int) == 0) = false := beq_eq_false_iff_ne.2 hn0
            by_cases hn8 : 8 < n
            · have HO := Lib.hid (ends_one HKP.out HKS.out HX.out hR.out.good HP1.out HPX.out (badOf_many hf hn8))
              have hn9' : n = 9 := by omega
              subst hn9'
              clear hf hkm2 hinv2 hpos
              go_wp2
              go_ret
              exact ⟨HO.out, hB5⟩
            · have HR2 : Hid (Rest st ks w3.heap.size (w3.alloc (.map #[] 0)) (k + 1) w5 K2) := Lib.hid {
                km := hkm2
                inv := hinv2
                grown := grown_trans' hR.out.grown hg5
                good := take_snoc_good HX.out hR.out.good (badOf_none hf (by omega)) }
              have HK1 := Lib.hid hkl2
              clear hf hkm2 hinv2 hpos hg5
              go_wp2
              go_roundw
              case rel =>
                have h1 := HK1.out
                have h2 := HLB.out
                rw [w64 _ (by omega) (by omega)]
                exact ⟨k + 1, K2, rfl, h1, HR2⟩
              case measure =>
                have h1 := HK1.out
                have h2 := HLB.out
                rw [w64 _ (by omega) (by omega)]
                simp [intOf]
                omega
        · have hke : k = ks.length := by omega
          have HO : Hid (EndsOut st (.returned .nilIface)) := Lib.hid (.inl ⟨rfl, ends_all HKP.out (fun x hx => hR.out.good x (by rw [hke, List.take_length]; exact hx))⟩)
          clear hke
          go_wp2
          go_ret
          exact ⟨HO.out, hBr⟩
    · obtain ⟨x, z, hkey, hval⟩ := HINT.out e (mem_left he).1
      have hen0 := run_entry_at (P := Tryz.prog) (setB w1 w.heap.size (.mapIter (some B.l) es.size (seen.push e.born) es.size)) w.heap.size B.l es.size seen es es.size e
      have HG : Hid (wr.grownBy (setB w1 w.heap.size (.mapIter (some B.l) es.size (seen.push e.born) es.size)) (some w.heap.size)) := Lib.hid (by
        rcases hal with rfl | rfl
        · exact setB_grown _ _ _
        · exact ⟨rfl, rfl, rfl, (setB_grown wr.drew _ _).size, (setB_grown wr.drew _ _).block⟩)
      have hit : (setB w1 w.heap.size (.mapIter (some B.l) es.size (seen.push e.born) es.size)).heap[w.heap.size]? = some (.mapIter (some B.l) es.size (seen.push e.born) es.size) := by
        rcases hal with rfl | rfl
        · exact setB_same hC.out.iter
        · exact setB_same (w := wr.drew) hC.out.iter
      rw [setBlock_eq] at hrun
      obtain ⟨W2, hW2⟩ : ∃ W2, setB w1 w.heap.size (.mapIter (some B.l) es.size (seen.push e.born) es.size) = W2 := ⟨_, rfl⟩
      rw [hW2] at hrun hen0 HG hit
      have hmap2 : W2.heap[B.l]? = some (.map es es.size) := (HG.out.block _ (lt_of_block hC.out.map) (by simp only [ne_eq, Option.some.injEq]; omega)).trans hC.out.map
      have hen := hen0 hit hmap2 (mem_left he).1 HBND.out
      rw [hkey, hval] at hrun hen
      have hnx : ∀ ty, (Instr.next (.pointer (some ⟨w.heap.size, 0, none⟩)) false ty).run Tryz.prog wr = .ok (.tuple #[.bool true, .int .i32 x, .int .i64 z]) W2 := fun _ => hrun
      obtain ⟨A1, C1, rfl⟩ := YtikpkjpnehkbfaaGreatDoor.Rowl.own_slice hown
      have hown2 : W2.ownsRow (w.heap.size + 1) 21 1 (.slice A1 l.length C1) l.length (enc l) := World.ownsRow.kept hown HG.out (.inr (fun e => by have := (hown.lt _ e).1; omega))
      have hs2 : wr.heap.size ≤ W2.heap.size := HG.out.size
      have hB2 : Below w.heap.size w W2 := hB.grown HG.out (by omega) (fun j hj => by injection hj with hj; omega)
      have HPERM := Lib.hid (left_perm HBORN.out he)
      have hmeas := left_shrinks es seen e he
      have hse : wr.iterSeen w.heap.size = seen := by unfold World.iterSeen; rw [hC.out.iter]
      have HIT := Lib.hid hit
      have HMP := Lib.hid hmap2
      have HKE := Lib.hid hkey
      have HOLD1 := Lib.hid hown
      have HMEAS := Lib.hid hmeas
      have HSE := Lib.hid hse
      clear hit hmap2 hen0 hrun hW2 hal HC0 hkey hval he hmeas hse hown
      have HLL := Lib.hid hll
      clear hll
      go_wp2_with (at_builtin; refine wpList_append_own _ rfl _ _ 22 rfl (w.heap.size + 1) 21 ii (.int .i32 0) 1 4 Tryz.underlying22 hi hz0 hz1 hz2 rfl (by decide) _ _ _ rfl (hown2.alloc _) ⟨W2.heap.size, 0, none⟩ 1 1 [.int .i32 x] rfl rfl ?c1 ?c2 ?c3 ?c4 ?c5 ?_; rotate_left 5; intro v' w4 hown4 hgrow _)
      case c1 => exact cells_laid W2 _ rfl (by simp [maxLen])
      case c2 => intro u hu; simp only [List.mem_singleton] at hu; subst hu; rfl
      case c3 => have := HLL.out; simp only [maxLen]; omega
      case c4 => have := HLL.out; omega
      case c5 => have := hB2.size; simp; omega
      rw [enc_snoc] at hown4
      have hBa : Below w.heap.size w (W2.alloc (.cells #[.int .i32 x] 21)) := hB2.alloc hB2.size _
      have hsa : (W2.alloc (.cells #[.int .i32 x] 21)).heap.size = W2.heap.size + 1 := by simp
      have hrow : ∀ j, (Value.slice A1 l.length C1).ownBlock = some j → w.heap.size + 1 ≤ j := fun j hj => (hown2.lt j hj).1
      have hB4 : Below w.heap.size w w4 := hBa.grown hgrow hBa.size (fun j hj => by have := hrow j hj; omega)
      have hs4 := hgrow.size
      have hit4 : w4.heap[w.heap.size]? = some (.mapIter (some B.l) es.size (seen.push e.born) es.size) := by
        have h2 := lt_of_block HIT.out
        rw [hgrow.block _ (by omega) (fun e => by have := hrow _ e.symm; omega), ((Below.refl _ W2).alloc (Nat.le_refl _) _).block _ h2]
        exact HIT.out
      have hmp4 : w4.heap[B.l]? = some (.map es es.size) := by
        have h2 := lt_of_block HMP.out
        rw [hgrow.block _ (by omega) (fun e => by have := hrow _ e.symm; omega), ((Below.refl _ W2).alloc (Nat.le_refl _) _).block _ h2]
        exact HMP.out
      refine ⟨⟨l ++ [x], seen.push e.born, by simpa using hown4, hB4, by omega, Lib.hid { map := hmp4, iter := hit4, perm := ?_ }⟩, ?_⟩
      · refine List.Perm.trans ?_ hC.out.perm
        rw [List.append_assoc]
        refine List.Perm.append_left _ ?_
        have := (HPERM.out.map keyInt).symm
        simp only [List.map_cons] at this
        have hk : keyInt e = x := by unfold keyInt; rw [HKE.out]
        rw [hk] at this
        exact this
      · rw [HSE.out]
        have : w4.iterSeen w.heap.size = seen.push e.born := by unfold World.iterSeen; rw [hit4]
        rw [this]
        exact HMEAS.out
end Go.Proofs.YtikpkjpnehkbfaaGreatDoor.Pr
