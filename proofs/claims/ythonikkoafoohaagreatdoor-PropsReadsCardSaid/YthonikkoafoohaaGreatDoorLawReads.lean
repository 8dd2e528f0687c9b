/- The law PropsReads. -/
import Derived.Test.YthonikkoafoohaaGreatDoorLawComposes
import Derived.Test.YthonikkoafoohaaGreatDoorLawFaults
import Derived.Test.YthonikkoafoohaaGreatDoorErrPlace
namespace Go.Proofs.YthonikkoafoohaaGreatDoor.Rf
open Go Go.RowKit Go.Shelf Go.Proofs.YthonikkoafoohaaGreatDoor.Sp Go.Proofs.YthonikkoafoohaaGreatDoor.Pr Go.Proofs.YthonikkoafoohaaGreatDoor.Rowl
open Go.Proofs.YthonikkoafoohaaGreatDoor.Errs (Handle)
set_option linter.unusedSimpArgs false
set_option linter.unusedVariables false

abbrev ToldAt (v : Value) (k l : Int) : Prop := ∀ W, Handle W → Calls Tryz.prog 20 #[v, .agg #[.int .i64 k, .int .i64 l]] W fun e w' => e = .returned (.bool true) ∧ Below W.heap.size W w'
set_option maxHeartbeats 1000000 in
theorem told_nil : ToldAt .nilIface 0 0 := fun w hg => by
  have HP : Hid (∀ W, Calls Tryz.prog 56 #[.nilIface, .int .i64 0] W fun e w' => e = .returned (.bool true) ∧ Below W.heap.size W w') := Lib.hid fun W => Errs.Plain_nil 0 W
  clear hg
  go_enter Tryz.func20, Tryz.ntmps20
  go_wp2_with (go_at_call 56; (refine (HP.out _).mono ?_); rintro e w1 ⟨rfl, hb⟩)
  go_ret
  exact ⟨rfl, below_past (Below.refl _ _) _ hb⟩
set_option maxHeartbeats 1000000 in
theorem told_num (k : Int) (h1 : 1 ≤ k) (h2 : k ≤ 25) : ToldAt (.iface 60 (.int .i64 k)) k 0 := fun w hg => by
  have HP : Hid (∀ W, Handle W → Calls Tryz.prog 56 #[.iface 60 (.int .i64 k), .int .i64 k] W fun e w' => e = .returned (.bool true) ∧ Below W.heap.size W w') := Lib.hid fun W hW => by
    have := Errs.Plain_of 60 (.int .i64 k) k k false (Errs.says_num k) h1 h2 (Errs.as_says_num k) W hW
    rwa [show (k == k && !false) = true by simp] at this
  have HG := Lib.hid (Handle.alloc hg (.cells #[.int .i64 k, .int .i64 0] 24))
  have hk : (k == 0) = false := beq_eq_false_iff_ne.2 (by omega)
  clear hg h1 h2
  go_enter Tryz.func20, Tryz.ntmps20
  go_wp2_with (go_at_call 56; (refine (HP.out _ HG.out).mono ?_); rintro e w1 ⟨rfl, hb⟩)
  go_ret
  exact ⟨rfl, below_past (Below.refl _ _) _ hb⟩
set_option maxHeartbeats 1000000 in
theorem told_fault (k l : Int) (h1 : 1 ≤ k) (h2 : k ≤ 25) (h3 : 1 ≤ l) : ToldAt (.iface 83 (.agg #[.int .i64 k, .int .i64 l, .int .i64 0])) k l := fun w hg => by
  have HP : Hid (∀ W, Handle W → Calls Tryz.prog 57 #[.iface 83 (.agg #[.int .i64 k, .int .i64 l, .int .i64 0]), .int .i64 k, .int .i64 l, .int .i64 0] W fun e w' => e = .returned (.bool true) ∧ Below W.heap.size W w') := Lib.hid fun W hW => Errs.At_fault k l 0 h1 h2 W hW
  have HG := Lib.hid (Handle.alloc hg (.cells #[.int .i64 k, .int .i64 l] 24))
  have hk : (k == 0) = false := beq_eq_false_iff_ne.2 (by omega)
  have hl : (l == 0) = false := beq_eq_false_iff_ne.2 (by omega)
  clear hg h1 h2 h3
  go_enter Tryz.func20, Tryz.ntmps20
  go_wp2_with (go_at_call 57; (refine (HP.out _ HG.out).mono ?_); rintro e w1 ⟨rfl, hb⟩)
  go_ret
  exact ⟨rfl, below_past (Below.refl _ _) _ hb⟩
theorem reads_long (s : ByteArray) (av : Value) (w : World) (h : 4096 < (s.size : Int)) : Calls Tryz.prog 6 #[.string s, av] w fun e w' => e = .returned (.bool true) ∧ Below w.heap.size w w' := by
  go_enter Tryz.func6, Tryz.ntmps6
  go_wp2
  go_ret
  exact ⟨rfl, Below.refl _ _⟩
set_option maxHeartbeats 4000000 in
set_option maxRecDepth 100000 in
theorem reads_bad (s : ByteArray) (av : Value) {m : Int} {ev : Value} (w : World) (hv : Vars w.heap.size w m ev) (hkd : KindsAt w) (hg : Handle w) (hs : (s.size : Int) ≤ 4096) {k : Int} {o : Option Int} (h : parse s.data.toList = .error (k, o)) : Calls Tryz.prog 6 #[.string s, av] w fun e w' => e = .returned (.bool true) ∧ Below w.heap.size w w' := by
  obtain ⟨⟨hk1, hk2⟩, hl⟩ := parse_e h
  have hkn : (k != 0) = true := bne_iff_ne.2 (by omega)
  have HRP : Hid (RP s k (o.getD 0)) := Lib.hid fun W hW => (rparse_calls s W hW).mono fun e w' ho => by
    rw [h] at ho
    exact ⟨ho.2, ho.1⟩
  have HPP : Hid (∃ t v, ToldAt (.iface t v) k (o.getD 0) ∧ ∀ W, Vars W.heap.size W m ev → Calls Tryz.prog 9 #[.string s] W fun e w' => e = .returned (.tuple #[.pointer none, .iface t v]) ∧ Below W.heap.size W w') := Lib.hid (by
    cases o with
    | none =>
      refine ⟨_, _, told_num k hk1 hk2, fun W hW => (parse_calls s (by omega) W hW).mono fun e w' ⟨ho, hb⟩ => ?_⟩
      rw [h] at ho
      exact ⟨ho, hb⟩
    | some l =>
      refine ⟨_, _, told_fault k l hk1 hk2 (hl l rfl), fun W hW => (parse_calls s (by omega) W hW).mono fun e w' ⟨ho, hb⟩ => ?_⟩
      rw [h] at ho
      exact ⟨ho, hb⟩)
  obtain ⟨t, v, ht, hp⟩ := HPP.out
  have HT := Lib.hid ht
  have HPR := Lib.hid hp
  have HV := Lib.hid hv
  have HK := Lib.hid hkd
  have HG := Lib.hid hg
  clear h hv hkd hg hk1 hk2 hl HPP ht hp
  generalize o.getD 0 = l at *
  go_enter Tryz.func6, Tryz.ntmps6
  go_wp2_with (first
    | (go_at_call 9; (with_reducible refine (HPR.out _ HV.out).mono ?_); rintro e w1 ⟨rfl, hb⟩; have HB1 := Lib.hid hb; clear hb)
    | (go_at_call 8; (with_reducible refine (HRP.out _ (HK.out.on HB1.out)).mono ?_); rintro e w2 ⟨rfl, hb⟩; have HB2 := Lib.hid (below_then HB1.out hb); have HT2 := Lib.hid (Two.start w2 (.int .i64 k) (.int .i64 l) 24); clear hb)
    | (go_at_call 20; (with_reducible refine (HT.out _ ((HG.out.below HB2.out).alloc _)).mono ?_); rintro e w3 ⟨rfl, hb⟩; have HT3 := Lib.hid (HT2.out.later hb); have HB3 := Lib.hid (below_past HB2.out _ hb); clear hb)
    | (go_at_call 10; (with_reducible refine (works_calls _ (HV.out.on HB3.out)).mono ?_); rintro e w4 ⟨rfl, hb⟩; have hc0 := (HT3.out.later hb).c0; have HB4 := Lib.hid (below_then HB3.out hb); clear hb))
  go_ret
  exact ⟨rfl, HB4.out⟩
set_option maxHeartbeats 8000000 in
set_option maxRecDepth 100000 in
theorem reads_good (s : ByteArray) (av : Value) (ask : List Int) {m : Int} {ev : Value} (w : World) (hv : Vars w.heap.size w m ev) (hkd : KindsAt w) (hg : Handle w) (hask : ReadPts w av ask) (hbd : ∀ x ∈ ask, -2147483648 ≤ x ∧ x ≤ 2147483647) (hs : (s.size : Int) ≤ 4096) {D : PD} (h : parse s.data.toList = .ok D) : Calls Tryz.prog 6 #[.string s, av] w fun e w' => e = .returned (.bool true) ∧ Below w.heap.size w w' := by
  have HRP : Hid (∀ W, KindsAt W → Calls Tryz.prog 8 #[.string s] W fun e w' => ∃ q st, e = .returned (.tuple #[.pointer (some ⟨q, 0, none⟩), .agg #[.int .i64 0, .int .i64 0]]) ∧ RefAt q w' st ∧ st.d = D ∧ Below W.heap.size W w') := Lib.hid fun W hW => (rparse_calls s W hW).mono fun e w' ho => by
    rw [h] at ho
    obtain ⟨hb, q, st, e1, e2, e3, _⟩ := ho
    exact ⟨q, st, e1, e2, e3, hb⟩
  have HPP : Hid (∀ W, Vars W.heap.size W m ev → Calls Tryz.prog 9 #[.string s] W fun e w' => ∃ p, e = .returned (.tuple #[.pointer (some ⟨p, 0, none⟩), .nilIface]) ∧ PropsAt w'.heap.size w' p D ∧ Below W.heap.size W w') := Lib.hid fun W hW => parse_good (by omega) hW h
  have HT := Lib.hid told_nil
  have HV := Lib.hid hv
  have HK := Lib.hid hkd
  have HG := Lib.hid hg
  have HQ := Lib.hid hask
  have HBD := Lib.hid hbd
  clear h hv hkd hg hask hbd
  go_enter Tryz.func6, Tryz.ntmps6
  go_wp2_with (first
    | (go_at_call 9; (with_reducible refine (HPP.out _ HV.out).mono ?_); rintro e w1 ⟨p, rfl, hp, hb⟩; have HB1 := Lib.hid hb; have HP1 := Lib.hid hp; clear hb hp)
    | (go_at_call 8; (with_reducible refine (HRP.out _ (HK.out.on HB1.out)).mono ?_); rintro e w2 ⟨q, st, rfl, hr, hd, hb⟩; have HB2 := Lib.hid (below_then HB1.out hb); have HP2 := Lib.hid (HP1.out.on hb); have HR2 := Lib.hid hr; have HD := Lib.hid hd; have HT2 := Lib.hid (Two.start w2 (.int .i64 0) (.int .i64 0) 24); clear hb hr hd)
    | (go_at_call 20; (with_reducible refine (HT.out _ ((HG.out.below HB2.out).alloc _)).mono ?_); rintro e w3 ⟨rfl, hb⟩; have HT3 := Lib.hid (HT2.out.later hb); have HB3 := Lib.hid (below_past HB2.out _ hb); have HX3 := Lib.hid (below_past (Below.refl _ w2) _ hb); clear hb)
    | (go_at_call 10; (with_reducible refine (works_calls _ (HV.out.on HB3.out)).mono ?_); rintro e w4 ⟨rfl, hb⟩; have hc0 := (HT3.out.later hb).c0; have HB4 := below_then HB3.out hb; have HX4 := below_then HX3.out hb; clear hb)
    | (go_at_call 13; (with_reducible refine (asked_calls p q D st HD.out av ask _ (HP2.out.on HX4) (HR2.out.on HX4) (HQ.out.on HB4) HBD.out).mono ?_); rintro e w5 ⟨rfl, hb⟩; replace HB4 := below_then HB4 hb; replace HX4 := below_then HX4 hb; clear hb))
  go_ret
  exact ⟨rfl, HB4⟩
theorem reads_calls (s : ByteArray) (av : Value) (ask : List Int) {m : Int} {ev : Value} (w : World) (hv : Vars w.heap.size w m ev) (hkd : KindsAt w) (hg : Handle w) (hask : ReadPts w av ask) (hbd : ∀ x ∈ ask, -2147483648 ≤ x ∧ x ≤ 2147483647) : Calls Tryz.prog 6 #[.string s, av] w fun e w' => e = .returned (.bool true) ∧ Below w.heap.size w w' := by
  by_cases h : 4096 < (s.size : Int)
  · exact reads_long s av w h
  · cases hp : parse s.data.toList with
    | error x => exact reads_bad s av w hv hkd hg (by omega) (k := x.1) (o := x.2) hp
    | ok D => exact reads_good s av ask w hv hkd hg hask hbd (by omega) hp
end Go.Proofs.YthonikkoafoohaaGreatDoor.Rf
