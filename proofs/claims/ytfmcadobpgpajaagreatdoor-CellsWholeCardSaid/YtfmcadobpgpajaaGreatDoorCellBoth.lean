/- glossarylaw09: both, works: the walks. -/
import Derived.Test.YtfmcadobpgpajaaGreatDoorCellSame
import Derived.Test.YtfmcadobpgpajaaGreatDoorRefParse
import Derived.Test.YtfmcadobpgpajaaGreatDoorBParse
import Derived.Test.YtfmcadobpgpajaaGreatDoorLawFaults
namespace Go.Proofs.YtfmcadobpgpajaaGreatDoor.Cl
open Go Go.RowKit Go.Shelf Go.Proofs.YtfmcadobpgpajaaGreatDoor.Sp Go.Proofs.YtfmcadobpgpajaaGreatDoor.Ut Go.Proofs.YtfmcadobpgpajaaGreatDoor.Pr Go.Proofs.YtfmcadobpgpajaaGreatDoor.Rf
set_option linter.unusedSimpArgs false
set_option linter.unusedVariables false

/-! ### works -/
def worksText : List UInt8 := [107, 105, 110, 100, 32, 48, 51, 48, 48, 46, 46, 48, 51, 54, 70, 32, 109, 97, 114, 107]
def worksD : PD := { kinds := [⟨768, 879, 3⟩] }
theorem works_parse : parse worksText = .ok worksD := by rfl
theorem works_cells : cells worksD [97, 204, 129, 98, 255, 204, 129] = [(0, 3), (3, 4), (4, 5), (5, 7)] := by decide +kernel
theorem works_count : (cells worksD [13, 10, 10]).length = 2 := by decide +kernel
theorem works_edge : edgeAt worksD [97, 98] 1 = true := by decide +kernel
theorem works_none : edgeAt worksD [] 0 = false := by decide +kernel
/-! ### the iterators' values -/
theorem gives_all {w : World} {p : Nat} {D : PD} (HP : PropsAt w.heap.size w p D) (HU : U8 w) {W : World} (hb : Below w.heap.size w W) (s : ByteArray) (hs : s.size ≤ 1048576) :
    Gives (iterW W p s) 39 #[.pointer (some ⟨W.heap.size + 1, 0, none⟩), .pointer (some ⟨W.heap.size, 0, none⟩)] (cells D s.data.toList) where
  enters := enters_of Tryz.func39 (by kernel_rfl) rfl
  seq := fun n hn => weakK (all_stops n hn _ _ p D s hs w HP HU _ (iter_new w hb)) (Below.refl _ _) (fun A B h => KeepI.of_below (hb.trans ((iter_below W p s).mono hb.size)).size (by simp) (by simp; omega) h)
theorem gives_back {w : World} {p : Nat} {D : PD} (HP : PropsAt w.heap.size w p D) (HU : U8 w) {W : World} (hb : Below w.heap.size w W) (s : ByteArray) (hs : s.size ≤ 1048576) :
    Gives (iterW W p s) 41 #[.pointer (some ⟨W.heap.size + 1, 0, none⟩), .pointer (some ⟨W.heap.size, 0, none⟩)] (cells D s.data.toList).reverse where
  enters := enters_of Tryz.func41 (by kernel_rfl) rfl
  seq := fun n hn => weakK (back_stops n hn _ _ p D s hs w HP HU _ (iter_new w hb)) (Below.refl _ _) (fun A B h => KeepI.of_below (hb.trans ((iter_below W p s).mono hb.size)).size (by simp) (by simp; omega) h)
theorem later_props {w W : World} {p : Nat} {D : PD} (HP : PropsAt w.heap.size w p D) (hb : Below w.heap.size w W) : PropsAt W.heap.size W p D := HP.on hb
abbrev EdgeAt (w : World) (p : Nat) (s : ByteArray) (z : Int) (b : Bool) : Prop := ∀ W, Below w.heap.size w W → Calls Tryz.prog 10 #[.pointer (some ⟨p, 0, none⟩), .string s, .int .i64 z] W fun e w' => e = .returned (.bool b) ∧ Below W.heap.size W w'
theorem edgeCall {w : World} {p : Nat} {D : PD} (HP : PropsAt w.heap.size w p D) (HU : U8 w) {s : ByteArray} (hs : s.size ≤ 1048576) {z : Int} {b : Bool} (h : edgeAt D s.data.toList z = b) : EdgeAt w p s z b := fun W hW => by
  rw [← h]; exact Edge_calls p D s z hs W (HP.on hW) (HU.on hW)
abbrev CountAt (w : World) (p : Nat) (s : ByteArray) (z : Int) : Prop := ∀ W, Below w.heap.size w W → Calls Tryz.prog 19 #[.pointer (some ⟨p, 0, none⟩), .string s] W fun e w' => e = .returned (.int .i64 z) ∧ Below W.heap.size W w'
theorem countCall {w : World} {p : Nat} {D : PD} (HP : PropsAt w.heap.size w p D) (HU : U8 w) {s : ByteArray} (hs : s.size ≤ 1048576) {k : Nat} (h : (cells D s.data.toList).length = k) : CountAt w p s (k : Int) := fun W hW => by
  rw [← h]; exact Count_calls p D s hs W (HP.on hW) (HU.on hW)
set_option maxHeartbeats 4000000 in
set_option maxRecDepth 100000 in
theorem works_calls {m : Int} {ev : Value} (w : World) (hv : Vars w.heap.size w m ev) (hU : U8 w) : Calls Tryz.prog 9 #[] w fun e w' => e = .returned (.bool true) ∧ Below w.heap.size w w' := by
  have HV := Lib.hid hv
  have HU := Lib.hid hU
  clear hv hU
  go_enter Tryz.func9, Tryz.ntmps9
  go_wp2_with fail
  refine (parse_calls _ (by decide) w HV.out).mono ?_
  rintro e w1 ⟨ho, hb1⟩
  have ho' : ParseOut w.heap.size (parse worksText) e w1 := ho
  rw [works_parse] at ho'
  obtain ⟨p, rfl, _, H1⟩ := ho'
  have HU1 := HU.out.on hb1
  have HG := Lib.hid (gives_all H1 HU1 (Below.refl _ w1) ⟨#[97, 204, 129, 98, 255, 204, 129]⟩ (by decide))
  have c1 := Lib.hid (countCall H1 HU1 (s := ⟨#[13, 10, 10]⟩) (by decide) works_count)
  have e1 := Lib.hid (edgeCall H1 HU1 (s := ⟨#[97, 98]⟩) (by decide) works_edge)
  have e0 := Lib.hid (edgeCall H1 HU1 (s := ⟨#[]⟩) (by decide) works_none)
  have HB1 := Lib.hid hb1
  clear ho HV hb1 H1 HU1 HU
  have HX := Lib.hid (iter_below w1 p ⟨#[97, 204, 129, 98, 255, 204, 129]⟩)
  go_wp2_with (first
    | (go_at_call 13; (refine (All_calls p _ _).mono ?_); rintro e w2 ⟨rfl, rfl⟩)
    | (go_at_call 16; go_must (refine (gathered_calls _ _ [(0, 3), (3, 4), (4, 5), (5, 7)] (by decide) _ _ (Below.refl _ _) (by have h := HG.out; exact (show Gives _ _ _ (cells worksD [97, 204, 129, 98, 255, 204, 129]) from h) |> fun h => by rw [works_cells] at h; exact h)).mono ?_; rintro e w3 ⟨v3, rfl, ho3, hb3⟩; have R3 := Lib.hid (ReadPairs.own ho3); obtain ⟨A3, k3, rfl⟩ := readP_slice R3.out; have HB := below_then' HX.out hb3; clear ho3 hb3))
    | (go_at_call 15; go_must (refine (same_pairs _ _ [(0, 3), (3, 4), (4, 5), (5, 7)] _ _ (R3.out.on ((Below.refl _ w3).alloc (Nat.le_refl _) _)) (ReadPairs.new w3 [(0, 3), (3, 4), (4, 5), (5, 7)] (by decide))).mono ?_; rintro e w4 ⟨rfl, hb4⟩; replace HB := below_past HB _ hb4; clear hb4))
    | (go_at_call 19; (with_reducible refine (c1.out _ HB).mono ?_); rintro e w5 ⟨rfl, hb⟩; replace HB := below_then' HB hb; clear hb)
    | (go_at_call 10; (with_reducible refine (e1.out _ HB).mono ?_); rintro e w6 ⟨rfl, hb⟩; replace HB := below_then' HB hb; clear hb e1)
    | (go_at_call 10; (with_reducible refine (e0.out _ HB).mono ?_); rintro e w7 ⟨rfl, hb⟩; replace HB := below_then' HB hb; clear hb e0))
  exact bodyPost_ret (v := .bool true) (by simp [results, Tryz.results9, go_sem]) rfl ⟨rfl, below_then' HB1.out HB⟩
/-! ### both -/
theorem both_long (s : ByteArray) (w : World) (h : 4096 < (s.size : Int)) : Calls Tryz.prog 8 #[.string s] w fun e w' => e = .returned (.tuple #[.pointer none, .pointer none, .bool false]) ∧ Below w.heap.size w w' := by
  go_enter Tryz.func8, Tryz.ntmps8
  go_wp2
  go_ret3
  exact ⟨rfl, Below.refl _ _⟩
set_option maxHeartbeats 4000000 in
set_option maxRecDepth 100000 in
theorem both_bad (s : ByteArray) {m : Int} {ev : Value} (w : World) (hv : Vars w.heap.size w m ev) (hkd : KindsAt w) (hs : (s.size : Int) ≤ 4096) {k : Int} {o : Option Int} (h : parse s.data.toList = .error (k, o)) :
    Calls Tryz.prog 8 #[.string s] w fun e w' => e = .returned (.tuple #[.pointer none, .pointer none, .bool false]) ∧ Below w.heap.size w w' := by
  have HRP : Hid (∀ W, KindsAt W → Calls Tryz.prog 24 #[.string s] W fun e w' => e = .returned (.tuple #[.pointer none, .agg #[.int .i64 k, .int .i64 (o.getD 0)]]) ∧ Below W.heap.size W w') := Lib.hid fun W hW => (rparse_calls s W hW).mono fun e w' ho => by
    rw [h] at ho
    exact ⟨ho.2, ho.1⟩
  have HPP := Lib.hid (fun (W : World) (hW : Vars W.heap.size W m ev) => Pr.parse_err (s := s) (by omega) hW h)
  have HV := Lib.hid hv
  have HK := Lib.hid hkd
  clear h hv hkd
  generalize o.getD 0 = l at *
  go_enter Tryz.func8, Tryz.ntmps8
  go_wp2_with (first
    | (go_at_call 11; (with_reducible refine (HPP.out _ HV.out).mono ?_); rintro e w1 ⟨⟨te, pv, rfl⟩, hb⟩; have HB1 := Lib.hid hb; clear hb)
    | (go_at_call 24; (with_reducible refine (HRP.out _ (HK.out.on HB1.out)).mono ?_); rintro e w2 ⟨rfl, hb⟩; have HB2 := Lib.hid (below_then' HB1.out hb); have hc0 := (Two.start w2 (.int .i64 k) (.int .i64 l) 49).c0; clear hb))
  go_region
  all_goals go_wp2
  all_goals go_ret3
  all_goals exact ⟨rfl, (HB2.out.alloc HB2.out.size _).drew⟩
set_option maxHeartbeats 4000000 in
set_option maxRecDepth 100000 in
theorem both_good (s : ByteArray) {m : Int} {ev : Value} (w : World) (hv : Vars w.heap.size w m ev) (hkd : KindsAt w) (hs : (s.size : Int) ≤ 4096) {D : PD} (h : parse s.data.toList = .ok D) :
    Calls Tryz.prog 8 #[.string s] w fun e w' => ∃ p q st, e = .returned (.tuple #[.pointer (some ⟨p, 0, none⟩), .pointer (some ⟨q, 0, none⟩), .bool true]) ∧ PropsAt w'.heap.size w' p D ∧ RefAt q w' st ∧ st.d = D ∧ Below w.heap.size w w' := by
  have HRP : Hid (∀ W, KindsAt W → Calls Tryz.prog 24 #[.string s] W fun e w' => ∃ q st, e = .returned (.tuple #[.pointer (some ⟨q, 0, none⟩), .agg #[.int .i64 0, .int .i64 0]]) ∧ RefAt q w' st ∧ st.d = D ∧ Below W.heap.size W w') := Lib.hid fun W hW => (rparse_calls s W hW).mono fun e w' ho => by
    rw [h] at ho
    obtain ⟨hb, q, st, e1, e2, e3, _⟩ := ho
    exact ⟨q, st, e1, e2, e3, hb⟩
  have HPP : Hid (∀ W, Vars W.heap.size W m ev → Calls Tryz.prog 11 #[.string s] W fun e w' => ∃ p, e = .returned (.tuple #[.pointer (some ⟨p, 0, none⟩), .nilIface]) ∧ PropsAt w'.heap.size w' p D ∧ Below W.heap.size W w') := Lib.hid fun W hW => parse_good (by omega) hW h
  have HV := Lib.hid hv
  have HK := Lib.hid hkd
  clear h hv hkd
  go_enter Tryz.func8, Tryz.ntmps8
  go_wp2_with (first
    | (go_at_call 11; (with_reducible refine (HPP.out _ HV.out).mono ?_); rintro e w1 ⟨p, rfl, hp, hb⟩; have HB1 := Lib.hid hb; have HP1 := Lib.hid hp; clear hb hp)
    | (go_at_call 24; (with_reducible refine (HRP.out _ (HK.out.on HB1.out)).mono ?_); rintro e w2 ⟨q, st, rfl, hr, hd, hb⟩; have HB2 := Lib.hid (below_then' HB1.out hb); have HP2 := Lib.hid (HP1.out.on hb); have HR2 := Lib.hid hr; have HD := Lib.hid hd; have hc0 := (Two.start w2 (.int .i64 0) (.int .i64 0) 49).c0; clear hb hr hd))
  go_region
  all_goals go_wp2
  all_goals go_ret3
  all_goals
    have hx : Below w2.heap.size w2 ((w2.alloc (.cells #[.int .i64 0, .int .i64 0] 49)).drew) := ((Below.refl _ w2).alloc (Nat.le_refl _) _).drew
    exact ⟨p, q, st, rfl, HP2.out.on hx, HR2.out.on hx, HD.out, below_then' HB2.out hx⟩
/-- What both answers. -/
def BothOut (s : ByteArray) (w : World) (e : Ending) (w' : World) : Prop := Below w.heap.size w w' ∧ ((e = .returned (.tuple #[.pointer none, .pointer none, .bool false])) ∨ (s.size ≤ 4096 ∧ ∃ p q st D, parse s.data.toList = .ok D ∧ e = .returned (.tuple #[.pointer (some ⟨p, 0, none⟩), .pointer (some ⟨q, 0, none⟩), .bool true]) ∧ PropsAt w'.heap.size w' p D ∧ RefAt q w' st ∧ st.d = D))
theorem both_calls (s : ByteArray) {m : Int} {ev : Value} (w : World) (hv : Vars w.heap.size w m ev) (hkd : KindsAt w) : Calls Tryz.prog 8 #[.string s] w fun e w' => BothOut s w e w' := by
  by_cases h : 4096 < (s.size : Int)
  · exact (both_long s w h).mono fun e w' ⟨a, b⟩ => ⟨b, .inl a⟩
  · cases hp : parse s.data.toList with
    | error x => exact (both_bad s w hv hkd (by omega) (k := x.1) (o := x.2) hp).mono fun e w' ⟨a, b⟩ => ⟨b, .inl a⟩
    | ok D => exact (both_good s w hv hkd (by omega) hp).mono fun e w' ⟨p, q, st, a, b, c, d, f⟩ => ⟨f, .inr ⟨by omega, p, q, st, D, hp, a, b, c, d⟩⟩
end Go.Proofs.YtfmcadobpgpajaaGreatDoor.Cl
