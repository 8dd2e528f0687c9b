/- normal.Stream.Write: the walk. -/
import Derived.Test.YtikpkjpnehkbfaaGreatDoorNormSet
namespace Go.Proofs.YtikpkjpnehkbfaaGreatDoor.Nw
open Go Go.RowKit Go.Shelf Go.Proofs.YtikpkjpnehkbfaaGreatDoor.Sp Go.Proofs.YtikpkjpnehkbfaaGreatDoor.Pr Go.Proofs.YtikpkjpnehkbfaaGreatDoor.Rf Go.Proofs.YtikpkjpnehkbfaaGreatDoor.Nm Go.Proofs.YtikpkjpnehkbfaaGreatDoor.Sb
set_option linter.unusedSimpArgs false
set_option linter.unusedVariables false

/-- What Write leaves: of the older blocks those of the stream and of its rest alone may have changed. -/
structure Wrt (X : Nat) (W W' : World) (v : Value) : Prop where
  os : W'.os = W.os
  tape : W'.tape = W.tape
  output : W'.output = W.output
  size : W.heap.size ≤ W'.heap.size
  block : ∀ k, k < W.heap.size → k ≠ X → v.ownBlock ≠ some k → W'.heap[k]? = W.heap[k]?
theorem wrt_end {X : Nat} {W w1 w2 w5 : World} {v v1 : Value} (hX : X < W.heap.size) (h1 : Mvd W.drew w1 v v1) (h2 : Below w1.heap.size w1 w2) (h5 : Below w2.heap.size w2 w5) (nv : Value) : Wrt X W (w5.setCell ⟨X, 1, none⟩ nv) v := by
  have hs1 : W.heap.size ≤ w1.heap.size := h1.size
  have hs2 := h2.size
  have hs5 := h5.size
  refine ⟨?_, ?_, ?_, ?_, fun k hk hn hb => ?_⟩
  · exact h5.os.trans (h2.os.trans h1.os)
  · exact h5.tape.trans (h2.tape.trans h1.tape)
  · exact h5.output.trans (h2.output.trans h1.output)
  · rw [World.size_setCell]; omega
  · rw [heap_setCell_other _ _ _ _ hn, h5.block k (by omega), h2.block k (by omega)]
    exact h1.block k hk hb
theorem own_base {n₀ n₁ : Nat} {W : World} {v : Value} {l : List Int} (h : OwnPts n₀ W v l) (hn : n₁ ≤ n₀) : OwnPts n₁ W v l := by
  refine ⟨h.1, ?_⟩
  rcases h.2 with e | ⟨g, cap, cur, e, h1, h2⟩
  · exact .inl e
  · exact .inr ⟨g, cap, cur, e, Nat.le_trans hn h1, h2⟩
theorem own_far {X n₀ : Nat} {W : World} {v nv : Value} {l : List Int} (h : OwnPts n₀ W v l) (hX : X < n₀) : OwnPts n₀ (W.setCell ⟨X, 1, none⟩ nv) v l := by
  refine ⟨h.1, ?_⟩
  rcases h.2 with e | ⟨g, cap, cur, e, h1, h2, h3⟩
  · exact .inl e
  · exact .inr ⟨g, cap, cur, e, h1, (heap_setCell_other _ _ _ _ (show g ≠ X by omega)).trans h2, h3⟩
theorem read_far {X g m : Nat} {w2 W : World} {nv : Value} {d : List Int} {c : Nat} (hc : ∀ (i : Nat) (x : Int), d[i]? = some x → ∃ b off, some (⟨g, 0, none⟩ : Addr) = some ⟨b, off, none⟩ ∧ w2.cell? ⟨b, off + i, none⟩ = some (.int .i32 x)) (hb : Below w2.heap.size w2 W) (hg : g ≠ X) (hm : m ≤ d.length) (hl : d.length ≤ 16777216) : ReadPts (W.setCell ⟨X, 1, none⟩ nv) (.slice (some ⟨g, 0, none⟩) m c) (d.take m) := by
  have hlen : (d.take m).length = m := by rw [List.length_take]; omega
  refine ⟨by rw [hlen]; simp only [maxLen]; omega, .inr ⟨g, 0, c, by rw [hlen], fun i x hi => ?_⟩⟩
  have hi' : d[i]? = some x := by
    rw [List.getElem?_take] at hi
    split at hi
    · exact hi
    · cases hi
  obtain ⟨b, off, e, h⟩ := hc i x hi'
  injection e with e
  injection e with e1 e2
  subst e1
  subst e2
  have := Sb.later_cell hb h
  rw [World.cell?_setCell_far _ _ _ _ (Ne.symm hg)]
  exact this
set_option maxHeartbeats 4000000 in
set_option maxRecDepth 100000 in
theorem write_calls {w0 : World} {p : Nat} {D : PD} (H : PropsAt w0.heap.size w0 p D) (hgood : Nm.Good D) {W : World} {X : Nat} {rv mv : Value} {L M : List Int} (hX : w0.heap.size ≤ X) (hb : Below w0.heap.size w0 W) (hs : StrAt X W p rv) (ho : OwnPts (X + 1) W rv L) (hr : ReadPts W mv M) (hl : (flat D (L ++ M)).length ≤ 16777216) :
    Calls Tryz.prog 29 #[.pointer (some ⟨X, 0, none⟩), mv] W fun e W' => ∃ out rv' n, IsSet (classOf D) (decN D (L ++ M)) n ∧ e = .returned out ∧ ReadPts W' out ((decN D (L ++ M)).take n) ∧ StrAt X W' p rv' ∧ OwnPts W.heap.size W' rv' ((decN D (L ++ M)).drop n) ∧ Wrt X W W' rv ∧ ∀ g, out.ownBlock = some g → W.heap.size ≤ g ∧ ∀ g', rv'.ownBlock = some g' → g ≠ g' := by
  obtain ⟨c0, c1, f1⟩ := hs.cells
  have HS := Lib.hid hs
  have HO := Lib.hid ho
  have HR := Lib.hid hr
  have HFL := Lib.hid hl
  have HL : Hid (L.length + M.length ≤ 16777216) := Lib.hid (by have := Nat.le_trans (flat_length hgood _).1 hl; rwa [List.length_append] at this)
  have HB := Lib.hid hb
  have hXs : Hid (X < W.heap.size) := Lib.hid (Array.getElem?_eq_some_iff.1 hs).1
  clear hs ho hr hl hb
  obtain ⟨B, bn, bc, rfl⟩ : ∃ B bn bc, rv = .slice B bn bc := by
    rcases HO.out.2 with ⟨e, _⟩ | ⟨g, cap, cur, e, _⟩
    · exact ⟨_, _, _, e⟩
    · exact ⟨_, _, _, e⟩
  obtain ⟨A, an, ac, rfl⟩ : ∃ A an ac, mv = .slice A an ac := by
    obtain ⟨A, c, e, _⟩ := read_addr HR.out
    exact ⟨_, _, _, e⟩
  go_enter Tryz.func29, Tryz.ntmps29
  have cd0 : W.drew.cell? ⟨X, 0, none⟩ = some (.pointer (some ⟨p, 0, none⟩)) := c0
  have cd1 : W.drew.cell? ⟨X, 1, none⟩ = some (.slice B bn bc) := c1
  have hXg : (Value.slice B bn bc).ownBlock ≠ some X := fun e => by have := (own_at HO.out X e).1; omega
  have HXg := Lib.hid hXg
  clear hXg
  have HLD : Hid ((decN D (L ++ M)).length ≤ 16777216) := Lib.hid (by unfold decN; rw [ordR_length]; exact HFL.out)
  have HBW : Hid (∀ (w1 : World) {v1 : Value}, Mvd W.drew w1 (.slice B bn bc) v1 → Below w0.heap.size w0 w1) := Lib.hid (fun w1 v1 hm => HB.out.drew.trans (hm.below (n₀ := w0.heap.size) HB.out.drew.size (fun g hg => by have := (own_at HO.out g hg).1; omega)))
  go_wp2
  go_region_law (first
    | (refine step_append_read (by rfl) _ _ (by rfl) (X + 1) (.slice B bn bc) (.slice A an ac) L M (by rfl) HO.out (by rfl) HR.out (Nat.le_trans HL.out (by decide)) hXs.out ?_; intro v1 w1 ho1 hm1; have HO1 := Lib.hid ho1; have HM1 := Lib.hid hm1; have c10 : w1.cell? ⟨X, 0, none⟩ = some (.pointer (some ⟨p, 0, none⟩)) := (World.cell?_of_block (a := ⟨X, 0, none⟩) (hm1.block X hXs.out HXg.out)).trans cd0; clear ho1 hm1)
    | (go_simp; (with_reducible refine (dec_calls_any H hgood (W := w1) (HBW.out _ HM1.out) (ReadPts.own HO1.out) HFL.out).mono ?_); rintro e w2 ⟨v2, rfl, ho2, hb2⟩; obtain ⟨A2, c2, rfl, hc2⟩ := read_addr (ReadPts.own ho2); have HC2 := Lib.hid hc2; have HO2 := Lib.hid ho2; have HB2 := Lib.hid hb2; have c20 := Sb.later_cell hb2 c10; clear ho2 hb2 hc2))
  all_goals
    have HBX := Lib.hid (bl_then (HBW.out _ HM1.out) HB2.out)
    have HD : Hid (∃ d, decN D (L ++ M) = d ∧ d.length ≤ 16777216) := Lib.hid ⟨_, rfl, HLD.out⟩
    obtain ⟨d, hd, hdl⟩ := HD.out
    rw [hd] at HC2 HO2 ⊢
    obtain ⟨n, hn⟩ : ∃ n, d.length = n := ⟨_, rfl⟩
    have HN := Lib.hid hn
    rw [hn] at hdl ⊢
    have HDE := Lib.hid hd
    have HSH : Hid ((A2 = none ∧ c2 = 0 ∧ n = 0) ∨ ∃ g, A2 = some ⟨g, 0, none⟩ ∧ n ≤ c2 ∧ c2 ≤ maxLen ∧ g < w2.heap.size ∧ w1.heap.size ≤ g) := Lib.hid (by
      rcases HO2.out.2 with ⟨e, h⟩ | ⟨g, cap, cur, e, h1, h2, h3, h4, _⟩
      · injection e with e1 e2 e3
        exact .inl ⟨e1, e3, by omega⟩
      · injection e with e1 e2 e3
        exact .inr ⟨g, e1, by omega, by omega, (Array.getElem?_eq_some_iff.1 h2).1, h1⟩)
    have HSX : Hid (StrAt X w2 p (.slice B bn bc)) := Lib.hid ((HB2.out.block X (Nat.lt_of_lt_of_le hXs.out HM1.out.size)).trans ((HM1.out.block X hXs.out HXg.out).trans HS.out))
    clear hn hd HD
    go_wp2
    go_loopg [6, 21] n (fun gk vs vi wr => ∃ (k m : Nat), vi = .int .i64 k ∧ vs = .int .i64 m ∧ k ≤ n ∧ m ≤ n ∧ n - k ≤ gk ∧ Hid (IsSet (classOf D) (d.take k) m ∧ Below w2.heap.size w2 wr))
    case atStart => exact ⟨0, 0, rfl, rfl, Nat.zero_le _, Nat.zero_le _, by omega, Lib.hid ⟨set_none _ _, Below.refl _ _⟩⟩
    case round =>
      obtain ⟨k, m, rfl, rfl, hk, hm, hg1, HI⟩ := hrel
      by_cases hlt : k < n
      · have hz : (k : Int) < (n : Int) := by omega
        obtain ⟨x, hx⟩ : ∃ x, d[k]? = some x := ⟨_, List.getElem?_eq_getElem (by rw [HN.out]; exact hlt)⟩
        obtain ⟨b, off, rfl, cx0⟩ := HC2.out k x hx
        have cx := Sb.later_cell HI.out.2 cx0
        have cX := Sb.later_cell HI.out.2 c20
        have hbw : Below w0.heap.size w0 wr := bl_then HBX.out HI.out.2
        have hbl : Below w2.heap.size w2 wr := HI.out.2
        obtain ⟨cz, hcz⟩ : ∃ cz, classOf D x = cz := ⟨_, rfl⟩
        have HCC := Lib.hid (classAt (r := x) H rfl)
        have HST := Lib.hid (set_step HI.out.1 hx)
        rw [hcz] at HCC HST
        clear hx hcz cx0
        by_cases h0 : cz = 0
        · have hb2 : (cz == 0) = true := by simp [h0]
          have HST2 : Hid (IsSet (classOf D) (d.take (k + 1)) (k + 1)) := Lib.hid (by have := HST.out; rwa [if_pos h0] at this)
          clear h0 HST
          go_wp2
          go_region_held3 (fun w' => w'.cell? ⟨b, off + k, none⟩ = some (.int .i32 x) ∧ w'.cell? ⟨X, 0, none⟩ = some (.pointer (some ⟨p, 0, none⟩))) (go_keep) ((go_at_call 55; (with_reducible refine (HCC.out _ (by first | exact hbw | exact hbw.drew | exact bl_drewN hbw _)).mono ?_); rintro e w3 ⟨rfl, hb3⟩; have cx := Sb.later_cell hb3 cx; have cX := Sb.later_cell hb3 cX))
          have HBL3 : Hid (Below w2.heap.size w2 w3) := Lib.hid (bl_then (by first | exact hbl | exact hbl.drew | exact bl_drewN hbl _) hb3)
          clear hb3
          go_wp2
          go_roundg (n - (k + 1))
          case rel => exact ⟨k + 1, k + 1, by go_num, by go_num, by omega, by omega, by omega, Lib.hid ⟨HST2.out, HBL3.out⟩⟩
          case measure => omega
        · have hb2 : (cz == 0) = false := beq_eq_false_iff_ne.2 h0
          have HST2 : Hid (IsSet (classOf D) (d.take (k + 1)) m) := Lib.hid (by have := HST.out; rwa [if_neg h0] at this)
          clear h0 HST
          go_wp2
          go_region_held3 (fun w' => w'.cell? ⟨b, off + k, none⟩ = some (.int .i32 x) ∧ w'.cell? ⟨X, 0, none⟩ = some (.pointer (some ⟨p, 0, none⟩))) (go_keep) ((go_at_call 55; (with_reducible refine (HCC.out _ (by first | exact hbw | exact hbw.drew | exact bl_drewN hbw _)).mono ?_); rintro e w3 ⟨rfl, hb3⟩; have cx := Sb.later_cell hb3 cx; have cX := Sb.later_cell hb3 cX))
          have HBL3 : Hid (Below w2.heap.size w2 w3) := Lib.hid (bl_then (by first | exact hbl | exact hbl.drew | exact bl_drewN hbl _) hb3)
          clear hb3
          go_wp2
          go_roundg (n - (k + 1))
          case rel => exact ⟨k + 1, m, by go_num, rfl, by omega, by omega, by omega, Lib.hid ⟨HST2.out, HBL3.out⟩⟩
          case measure => omega
      · obtain rfl : k = n := by omega
        have HT : Hid (IsSet (classOf D) d m) := Lib.hid (by have := HI.out.1; rwa [← HN.out, List.take_of_length_le (Nat.le_refl _)] at this)
        clear hlt
        have HSr : Hid (StrAt X wr p (.slice B bn bc)) := Lib.hid ((HI.out.2.block X (Array.getElem?_eq_some_iff.1 HSX.out).1).trans HSX.out)
        obtain ⟨s0, s1, s2⟩ := HSr.out.cells
        rcases HSH.out with ⟨rfl, rfl, rfl⟩ | ⟨g, rfl, hle, hmx, hgl, hgg⟩
        · obtain rfl : m = 0 := by omega
          go_wp2_with (go_at_call 62; (with_reducible refine (clone_nil wr).mono ?_); rintro e w5 ⟨rfl, rfl⟩)
          go_ret
          have hd0 : d = [] := List.length_eq_zero_iff.1 HN.out
          exact ⟨_, .slice none 0 0, 0, by rw [HDE.out]; exact HT.out, rfl, ⟨by simp, .inl ⟨by simp, _, _, rfl⟩⟩, HSr.out.set _, by rw [HDE.out, hd0]; exact ⟨rfl, .inl ⟨rfl, rfl⟩⟩, wrt_end hXs.out HM1.out HB2.out HI.out.2 _, fun g e => (by cases e)⟩
        · have HP : Hid (Pts wr.heap.size wr (.slice (some ⟨g, m, none⟩) (k - m) (c2 - m)) (d.drop m)) := Lib.hid ⟨g, m, c2 - m, by rw [List.length_drop, HN.out], Nat.lt_of_lt_of_le hgl HI.out.2.size, by rw [List.length_drop, HN.out]; omega, by omega, fun i x hi => by
            rw [List.getElem?_drop] at hi
            obtain ⟨b, off, e, hc⟩ := HC2.out _ x hi
            injection e with e
            injection e with e1 e2
            subst e1
            subst e2
            have := Sb.later_cell HI.out.2 hc
            rwa [Nat.zero_add] at this⟩
          have HCL := Lib.hid (clone_pts_any _ (d.drop m) wr HP.out (by rw [List.length_drop, HN.out]; omega))
          have HP0 : Hid (c2 = m → Pts wr.heap.size wr (.slice (some ⟨g, 0, none⟩) 0 0) (d.drop m)) := Lib.hid (fun e => ⟨g, 0, 0, by rw [List.length_drop, HN.out, show k - m = 0 by omega], Nat.lt_of_lt_of_le hgl HI.out.2.size, by rw [List.length_drop, HN.out]; omega, Nat.zero_le _, fun i x hi => by
            have := (List.getElem?_eq_some_iff.1 hi).1
            rw [List.length_drop, HN.out] at this
            omega⟩)
          have HCL0 := Lib.hid (fun e => clone_pts_any _ (d.drop m) wr (HP0.out e) (by rw [List.length_drop, HN.out]; omega))
          have hgX : g ≠ X := by have := hXs.out; have : W.heap.size ≤ w1.heap.size := HM1.out.size; omega
          have HGX := Lib.hid hgX
          by_cases hcm : c2 = m
          · obtain rfl : k = m := by omega
            have HCL1 := Lib.hid (HCL0.out hcm)
            obtain rfl : k = c2 := by omega
            go_wp2_with (go_at_call 62; (with_reducible refine HCL1.out.mono ?_); rintro e w5 ⟨v5, rfl, ho5, hb5⟩; obtain ⟨A5, n5, c5, rfl⟩ : ∃ A5 n5 c5, v5 = .slice A5 n5 c5 := (by rcases ho5.2 with ⟨e, _⟩ | ⟨_, _, _, e, _⟩ <;> exact ⟨_, _, _, e⟩); have HS5 : Hid (StrAt X w5 p (.slice B bn bc)) := Lib.hid ((hb5.block X (Array.getElem?_eq_some_iff.1 HSr.out).1).trans HSr.out); obtain ⟨y0, y1, y2⟩ := HS5.out.cells; have HO5 := Lib.hid ho5; have HB5 := Lib.hid hb5; clear ho5 hb5)
            go_ret
            exact ⟨_, _, _, by rw [HDE.out]; exact HT.out, rfl, by rw [HDE.out]; exact read_far HC2.out (bl_then HI.out.2 HB5.out) HGX.out (by rw [HN.out]; exact hm) (by rw [HN.out]; exact hdl), HS5.out.set _, by rw [HDE.out]; exact own_base (own_far HO5.out (Array.getElem?_eq_some_iff.1 HSr.out).1) (Nat.le_trans (show W.heap.size ≤ w1.heap.size from HM1.out.size) (Nat.le_trans HB2.out.size HI.out.2.size)), wrt_end hXs.out HM1.out HB2.out (bl_then HI.out.2 HB5.out) _, fun g' e => (by obtain rfl : g = g' := (by simpa [Value.ownBlock] using e); exact ⟨Nat.le_trans (show W.heap.size ≤ w1.heap.size from HM1.out.size) hgg, fun g2 h2 e2 => (by have := (own_at HO5.out g2 h2).1; have := HI.out.2.size; omega)⟩)⟩
          · go_wp2_with (go_at_call 62; (with_reducible refine (HCL.out).mono ?_); rintro e w5 ⟨v5, rfl, ho5, hb5⟩; obtain ⟨A5, n5, c5, rfl⟩ : ∃ A5 n5 c5, v5 = .slice A5 n5 c5 := (by rcases ho5.2 with ⟨e, _⟩ | ⟨_, _, _, e, _⟩ <;> exact ⟨_, _, _, e⟩); have HS5 : Hid (StrAt X w5 p (.slice B bn bc)) := Lib.hid ((hb5.block X (Array.getElem?_eq_some_iff.1 HSr.out).1).trans HSr.out); obtain ⟨y0, y1, y2⟩ := HS5.out.cells; have HO5 := Lib.hid ho5; have HB5 := Lib.hid hb5; clear ho5 hb5)
            go_ret
            exact ⟨_, _, _, by rw [HDE.out]; exact HT.out, rfl, by rw [HDE.out]; exact read_far HC2.out (bl_then HI.out.2 HB5.out) HGX.out (by rw [HN.out]; exact hm) (by rw [HN.out]; exact hdl), HS5.out.set _, by rw [HDE.out]; exact own_base (own_far HO5.out (Array.getElem?_eq_some_iff.1 HSr.out).1) (Nat.le_trans (show W.heap.size ≤ w1.heap.size from HM1.out.size) (Nat.le_trans HB2.out.size HI.out.2.size)), wrt_end hXs.out HM1.out HB2.out (bl_then HI.out.2 HB5.out) _, fun g' e => (by obtain rfl : g = g' := (by simpa [Value.ownBlock] using e); exact ⟨Nat.le_trans (show W.heap.size ≤ w1.heap.size from HM1.out.size) hgg, fun g2 h2 e2 => (by have := (own_at HO5.out g2 h2).1; have := HI.out.2.size; omega)⟩)⟩
end Go.Proofs.YtikpkjpnehkbfaaGreatDoor.Nw
