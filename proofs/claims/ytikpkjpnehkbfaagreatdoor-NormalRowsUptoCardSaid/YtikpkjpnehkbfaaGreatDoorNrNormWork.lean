/- The laws' works: marks are put in order, and composed: the walk. -/
import Derived.Test.YtikpkjpnehkbfaaGreatDoorNrG
import Derived.Test.YtikpkjpnehkbfaaGreatDoorNrD
import Derived.Test.YtikpkjpnehkbfaaGreatDoorNrBParse
set_option linter.unusedSimpArgs false
set_option linter.unusedVariables false
namespace Go.Proofs.YtikpkjpnehkbfaaGreatDoor.Nw
open Go Go.RowKit Go.Shelf Go.Proofs.YtikpkjpnehkbfaaGreatDoor.Sp Go.Proofs.YtikpkjpnehkbfaaGreatDoor.Pr Go.Proofs.YtikpkjpnehkbfaaGreatDoor.Rf Go.Proofs.YtikpkjpnehkbfaaGreatDoor.Nm Go.Proofs.YtikpkjpnehkbfaaGreatDoor.Sb Go.Proofs.YtikpkjpnehkbfaaGreatDoor.Ut
theorem small_isset : IsSet (classOf smallD) (decN smallD ([] ++ [65, 768])) 1 := by
  have := settled_is (classOf smallD) [65, 768]
  rw [small_write.2] at this
  rw [List.nil_append, small_write.1]
  exact this
theorem small_textT : (⟨(normT smallD (⟨#[195, 128]⟩ : ByteArray).data.toList false).toArray⟩ : ByteArray) = ⟨#[65, 204, 128]⟩ := by
  unfold normT
  show (⟨(textOf (decN smallD (ptsOf [195, 128]))).toArray⟩ : ByteArray) = _
  rw [small_text]
theorem small_good : Nm.Good smallD := good_of small_parse
theorem StrAt.on {X p : Nat} {W W' : World} {rv : Value} (h : StrAt X W p rv) (hb : Below W.heap.size W W') : StrAt X W' p rv := (hb.block X (Array.getElem?_eq_some_iff.1 h).1).trans h
theorem read_set {X : Nat} {W : World} {u v : Value} {l : List Int} (h : ReadPts W v l) (hv : ∀ g, v.ownBlock = some g → g ≠ X) : ReadPts (W.setCell ⟨X, 1, none⟩ u) v l := ⟨h.len, by
  rcases h.at_ with h | ⟨b, off, c, rfl, hc⟩
  · exact .inl h
  · refine .inr ⟨b, off, c, rfl, fun i x hi => ?_⟩
    rw [World.cell?_setCell_far _ _ _ _ (show X ≠ b from fun e => hv b rfl e.symm)]
    exact hc i x hi⟩
theorem lit_same {w : World} {v : Value} {l : List Int} (h : ReadPts w v l) {cs : Array Value} (hc : cs = (enc l).toArray) {n : Nat} (hn : l.length = n) (hm : l.length ≤ maxLen) : ∀ W, Below w.heap.size w W → Calls Tryz.prog 22 #[v, .slice (some ⟨W.heap.size, 0, none⟩) n n] (W.alloc (.cells cs 21)) fun e w' => e = .returned (.bool true) ∧ Below W.heap.size W w' := fun W hb => by
  subst hc hn
  exact (same_true _ _ l _ (h.on (hb.alloc hb.size _)) (ReadPts.new W l hm)).mono fun e w' ⟨a, b⟩ => ⟨a, ((Below.refl _ W).alloc (Nat.le_refl _) _).trans (b.mono (by rw [World.size_alloc]; omega))⟩
theorem lit_cut {w : World} {p : Nat} {l : List Int} {z : Int} {b : Bool} (h : CutAt w p l z b) {cs : Array Value} (hc : cs = (enc l).toArray) {n : Nat} (hn : l.length = n) (hm : l.length ≤ maxLen) : ∀ W, Below w.heap.size w W → Calls Tryz.prog 23 #[.pointer (some ⟨p, 0, none⟩), .slice (some ⟨W.heap.size, 0, none⟩) n n, .int .i64 z] (W.alloc (.cells cs 21)) fun e w' => e = .returned (.bool b) ∧ Below W.heap.size W w' := fun W hb => by
  subst hc hn
  exact (h _ _ (hb.alloc hb.size _) (ReadPts.new W l hm)).mono fun e w' ⟨a, b⟩ => ⟨a, ((Below.refl _ W).alloc (Nat.le_refl _) _).trans (b.mono (by rw [World.size_alloc]; omega))⟩
set_option maxHeartbeats 8000000 in
set_option maxRecDepth 100000 in
theorem works_calls {m : Int} {ev : Value} (w : World) (hv : Vars w.heap.size w m ev) : Calls Tryz.prog 16 #[] w fun e w' => e = .returned (.bool true) ∧ Below w.heap.size w w' := by
  have HV := Lib.hid hv
  clear hv
  go_enter Tryz.func16, Tryz.ntmps16
  go_wp2_with fail
  refine (parse_calls _ (by decide) w HV.out).mono ?_
  rintro e w1 ⟨ho, hb1⟩
  have ho' : ParseOut w.heap.size (parse smallText) e w1 := ho
  rw [small_parse] at ho'
  obtain ⟨p, rfl, _, H1⟩ := ho'
  have HP := Lib.hid H1
  have HB1 := Lib.hid hb1
  have D1 := Lib.hid (decAt H1 small_good small_dec (by rw [← flat_dec_len small_good, small_dec]; decide +kernel))
  have C1 := Lib.hid (comAt H1 small_good small_comp (by decide +kernel))
  have HB := Below.refl w1.heap.size w1
  clear ho HV hb1 H1
  go_wp2_with (first
    | (go_at_call 18; (refine (D1.out _ _ (HB.alloc HB.size _) (ReadPts.new _ [7846, 807] (by decide))).mono ?_); rintro e w2 ⟨A2, K2, rfl, R2, hb⟩; replace HB := below_past HB _ hb; clear hb)
    | (go_at_call 19; (refine (C1.out _ _ (HB.alloc HB.size _) (ReadPts.new _ [65, 807, 768] (by decide))).mono ?_); rintro e w3 ⟨A3, K3, rfl, R3, hb⟩; replace R2 := (R2.alloc _).on hb; replace HB := below_past HB _ hb; clear hb))
  have HBD := Lib.hid HB
  have HR2 := Lib.hid R2
  have HR3 := Lib.hid R3
  clear R2 R3 D1 C1 HB
  go_wp2_with (first
    | (go_at_call 27; (refine (new_calls _).mono ?_); rintro e w4 ⟨rfl, hst, hb, hz⟩; have HST := Lib.hid hst; have HB4 := Lib.hid hb; clear hst hb hz)
    | (go_at_call 29; (refine (write_calls (L := []) (M := [65, 768]) HP.out small_good HBD.out.size (bl_then HBD.out (HB4.out.alloc HB4.out.size _)) (HST.out.on ((Below.refl _ w4).alloc (Nat.le_refl _) _)) ⟨rfl, .inl ⟨rfl, rfl⟩⟩ (ReadPts.new _ [65, 768] (by decide)) (by decide +kernel)).mono ?_); rintro e w5 ⟨out, rv, n, hset, rfl, hro, hst5, hor5, hwrt, hap⟩; obtain rfl : n = 1 := hset.uniq small_isset; rw [List.nil_append, small_write.1] at hro hor5; obtain ⟨A5, k5, rfl⟩ := YtikpkjpnehkbfaaGreatDoor.Rowl.own_slice hor5; obtain ⟨A6, k6, rfl⟩ := hro.slice; have HST5 := Lib.hid hst5; have HOR5 := Lib.hid hor5; have HRO5 := Lib.hid hro; have HAP := Lib.hid hap; have HB5 := Lib.hid ((HB4.out.alloc HB4.out.size _).trans (hwrt.below (n₀ := w3.heap.size) (Nat.le_refl _) (by rw [World.size_alloc]; have := HB4.out.size; omega) (fun g h => by cases h))); clear hset hst5 hor5 hro hwrt hap)
    | (go_at_call 30; (refine (end_stream _ HST5.out).mono ?_); rintro e w6 ⟨rfl, hst6, rfl⟩; clear hst6))
  have HB6 := Lib.hid (HB5.out.trans (below_set (n₀ := w3.heap.size) (X := w3.heap.size) (W := w5) (.slice none 0 0) (Nat.le_refl _)))
  have HSX : Hid (w3.heap.size + 1 ≤ w4.heap.size) := Lib.hid (Array.getElem?_eq_some_iff.1 HST.out).1
  have RX0 : ReadPts (w5.setCell ⟨w3.heap.size, 1, none⟩ (.slice none 0 0)) (.slice A5 1 k5) [768] := ReadPts.own (Rf.own_set (own_base HOR5.out (by rw [World.size_alloc]; have := HSX.out; omega)))
  have RW0 : ReadPts (w5.setCell ⟨w3.heap.size, 1, none⟩ (.slice none 0 0)) (.slice A6 1 k6) [65] := read_set HRO5.out (fun g h => by have := (HAP.out g h).1; rw [World.size_alloc] at this; have := HSX.out; omega)
  obtain ⟨w7, hw7⟩ : ∃ W, w5.setCell ⟨w3.heap.size, 1, none⟩ (.slice none 0 0) = W := ⟨_, rfl⟩
  have hz7 : w5.heap.size = w7.heap.size := by rw [← hw7, World.size_setCell]
  rw [hw7] at HB6 RX0 RW0 ⊢
  rw [hz7]
  have S4 := Lib.hid (lit_same RX0 (cs := #[.int .i32 768]) rfl (n := 1) rfl (by decide))
  have S3 := Lib.hid (lit_same RW0 (cs := #[.int .i32 65]) rfl (n := 1) rfl (by decide))
  have S1 := Lib.hid (lit_same (show ReadPts w7 (.slice A2 4 K2) [65, 807, 768, 769] from HR2.out.on HB6.out) (cs := #[.int .i32 65, .int .i32 807, .int .i32 768, .int .i32 769]) rfl (n := 4) rfl (by decide))
  have S2 := Lib.hid (lit_same (show ReadPts w7 (.slice A3 2 K3) [192, 807] from HR3.out.on HB6.out) (cs := #[.int .i32 192, .int .i32 807]) rfl (n := 2) rfl (by decide))
  have HBE := Lib.hid (bl_then HBD.out HB6.out)
  have T1 := Lib.hid (textAt HP.out small_good (s := ⟨#[195, 128]⟩) (c := false) small_textT (by decide) (by decide +kernel))
  have X1 := Lib.hid (lit_cut (cutAt HP.out small_good (l := [65, 66]) (z := 1) (b := true) (by decide +kernel) (by decide)) (cs := #[.int .i32 65, .int .i32 66]) rfl (n := 2) rfl (by decide))
  have X2 := Lib.hid (lit_cut (cutAt HP.out small_good (l := [65, 768]) (z := 1) (b := false) (by decide +kernel) (by decide)) (cs := #[.int .i32 65, .int .i32 768]) rfl (n := 2) rfl (by decide))
  have HB := Below.refl w7.heap.size w7
  clear RX0 RW0 hw7 hz7 HR2 HR3 HOR5 HRO5 HAP HST5 HST HB4 HB5 HB6 HSX
  go_wp2_with (first
    | (go_at_call 22; (with_reducible refine (S1.out _ HB).mono ?_); rintro e w8 ⟨rfl, hb⟩; replace HB := bl_then HB hb; clear hb)
    | (go_at_call 22; (with_reducible refine (S2.out _ HB).mono ?_); rintro e w8 ⟨rfl, hb⟩; replace HB := bl_then HB hb; clear hb)
    | (go_at_call 22; (with_reducible refine (S3.out _ HB).mono ?_); rintro e w8 ⟨rfl, hb⟩; replace HB := bl_then HB hb; clear hb)
    | (go_at_call 22; (with_reducible refine (S4.out _ HB).mono ?_); rintro e w8 ⟨rfl, hb⟩; replace HB := bl_then HB hb; clear hb)
    | (go_at_call 35; (with_reducible refine (T1.out _ (bl_then HBE.out HB)).mono ?_); rintro e w9 ⟨rfl, hb⟩; replace HB := bl_then HB hb; clear hb)
    | (go_at_call 23; (with_reducible refine (X1.out _ (bl_then HBE.out HB)).mono ?_); rintro e w10 ⟨rfl, hb⟩; replace HB := bl_then HB hb; clear hb)
    | (go_at_call 23; (with_reducible refine (X2.out _ (bl_then HBE.out HB)).mono ?_); rintro e w10 ⟨rfl, hb⟩; replace HB := bl_then HB hb; clear hb))
  exact bodyPost_ret (v := .bool true) (by simp [results, Tryz.results16, go_sem]) rfl ⟨rfl, bl_then HB1.out (bl_then HBE.out HB)⟩
abbrev WorksAt (w : World) : Prop := ∀ W, Below w.heap.size w W → Calls Tryz.prog 16 #[] W fun e w' => e = .returned (.bool true) ∧ Below W.heap.size W w'
theorem worksAt {m : Int} {ev : Value} {w : World} (hv : Vars w.heap.size w m ev) : WorksAt w := fun W h => works_calls W (hv.on h)
end Go.Proofs.YtikpkjpnehkbfaaGreatDoor.Nw
