/- A lent row; rows apart; the law. -/
import Derived.Test.YtikpkjpnehkbfaaGreatDoorNrNormJoin
import Derived.Test.YtikpkjpnehkbfaaGreatDoorNrH
import Derived.Test.YtikpkjpnehkbfaaGreatDoorNrF
import Derived.Test.YtikpkjpnehkbfaaGreatDoorNrNormWork
import Derived.Test.YtikpkjpnehkbfaaGreatDoorNrL
import Derived.Test.YtikpkjpnehkbfaaGreatDoorNrJ
set_option linter.ambiguousOpen false
set_option linter.unusedSimpArgs false
set_option linter.unusedVariables false
namespace Go.Proofs.YtikpkjpnehkbfaaGreatDoor.Nw
open Go Go.RowKit Go.Shelf Sp Pr Rf Nm Sb
def markN (k i : Nat) : Int := wrap32 (wrap32 (-1000 * wrap32 ((k : Int) + 1)) - wrap32 i)
theorem markN_calls (k i : Int) (w : World) (h0 : 0 ≤ k) (h1 : k < 4294967296) (h2 : 0 ≤ i) (h3 : i < 1099511628000) : Calls Tryz.prog 60 #[.int .i64 k, .int .i64 i] w fun e w' => e = .returned (.int .i32 (markN k.toNat i.toNat)) ∧ Below w.heap.size w w' := by
  unfold markN
  rw [Int.toNat_of_nonneg h0, Int.toNat_of_nonneg h2]
  go_enter Tryz.func60, Tryz.ntmps60
  go_wp2
  go_ret
  exact ⟨rfl, Below.refl _ _⟩
theorem mark_any (i : Int) (w : World) : Calls Tryz.prog 60 #[.int .i64 90, .int .i64 i] w fun e w' => (∃ r, e = .returned (.int .i32 r)) ∧ w' = w := by
  go_enter Tryz.func60, Tryz.ntmps60
  go_wp2
  go_ret
  exact ⟨⟨_, rfl⟩, rfl⟩
theorem mark_at (i : Nat) (hi : i < 1099511628000) (w : World) : Calls Tryz.prog 60 #[.int .i64 90, .int .i64 (i : Int)] w fun e w' => e = .returned (.int .i32 (markN 90 i)) ∧ Below w.heap.size w w' := by
  have := markN_calls 90 (i : Int) w (by omega) (by omega) (by omega) (by omega)
  simpa using this
def marksN (n : Nat) : List Int := (List.range n).map (markN 90)
theorem marks_succ (n : Nat) : marksN (n + 1) = marksN n ++ [markN 90 n] := by unfold marksN; rw [List.range_succ, List.map_append]; rfl
theorem marks_len (n : Nat) : (marksN n).length = n := by unfold marksN; rw [List.length_map, List.length_range]
theorem marks_at {n i : Nat} (h : i < n) : (marksN n)[i]? = some (markN 90 i) := by unfold marksN; rw [List.getElem?_map, List.getElem?_range h]; rfl
set_option maxHeartbeats 4000000 in
set_option maxRecDepth 100000 in
theorem fullRunes_calls {W : World} {lv : Value} {l : List Int} (hr : ReadPts W lv l) (hl : l.length ≤ 1073741000) :
    Calls Tryz.prog 52 #[lv] W fun e W' => ∃ v, e = .returned v ∧ OwnPts W.heap.size W' v (l ++ marksN 16) ∧ Below W.heap.size W W' := by
  obtain ⟨A, c, rfl, hc⟩ := read_addr hr
  have HC := Lib.hid hc
  obtain ⟨n, hn⟩ : ∃ n, l.length = n := ⟨_, rfl⟩
  have HN := Lib.hid hn
  have HMK := Lib.hid (fun (i : Nat) (hi : i < 16) (w : World) => mark_at i (by omega) w)
  have HMS := Lib.hid marks_succ
  rw [hn] at hl ⊢
  clear hc hr hn
  go_enter Tryz.func52, Tryz.ntmps52
  go_wp2
  go_loopg [3, 4] n (fun gk vo vi wr => ∃ (i : Nat), vi = .int .i64 i ∧ i ≤ n ∧ n - i ≤ gk ∧ Hid (OwnPts W.heap.size wr vo (l.take i) ∧ Below W.heap.size W wr))
  case atStart => exact ⟨0, rfl, Nat.zero_le _, by omega, Lib.hid ⟨own_nilP _ _, Below.refl _ _⟩⟩
  case round =>
    obtain ⟨i, rfl, hi, hg1, HI⟩ := hrel
    by_cases hlt : i < n
    · have hz : (i : Int) < (n : Int) := by omega
      obtain ⟨x, hx⟩ : ∃ x, l[i]? = some x := ⟨_, List.getElem?_eq_getElem (by rw [HN.out]; exact hlt)⟩
      obtain ⟨b, off, rfl, cx0⟩ := HC.out i x hx
      have cx := Sb.later_cell HI.out.2 cx0
      have HTX : Hid (l.take (i + 1) = l.take i ++ [x]) := Lib.hid (by rw [List.take_add_one, hx]; rfl)
      have HLN : Hid ((l.take i).length ≤ 1073741824) := Lib.hid (by rw [List.length_take]; omega)
      clear cx0 hx
      go_wp2_with (at_builtin; refine wpList_append_mvd rfl _ _ rfl W.heap.size _ (l.take i) rfl HI.out.1 rfl HLN.out HI.out.2.size ?_; rintro v' w4 ho4 hm4 -; rw [← HTX.out] at ho4; have HO4 := Lib.hid ho4; have HM4 := Lib.hid (HI.out.2.trans (hm4.below HI.out.2.size (fun g hg => (own_at HI.out.1 g hg).1))); clear ho4 hm4)
      go_roundg (n - (i + 1))
      case rel => exact ⟨i + 1, by go_num, by omega, by omega, Lib.hid ⟨HO4.out, HM4.out⟩⟩
      case measure => omega
    · have hin : i = l.length := by rw [HN.out]; omega
      have HO : Hid (OwnPts W.heap.size wr u3 l ∧ Below W.heap.size W wr) := Lib.hid ⟨by have := HI.out.1; rw [hin, List.take_of_length_le (Nat.le_refl _)] at this; exact this, HI.out.2⟩
      have hz : ¬ (i : Int) < (n : Int) := by omega
      clear hin hlt HI
      go_wp2
      go_loopg [3, 5] 16 (fun gk vo vi w2 => ∃ (k : Nat), vi = .int .i64 k ∧ k ≤ 16 ∧ 16 - k ≤ gk ∧ Hid (OwnPts W.heap.size w2 vo (l ++ marksN k) ∧ Below W.heap.size W w2))
      case atStart => exact ⟨0, rfl, Nat.zero_le _, by omega, Lib.hid ⟨by show OwnPts _ _ _ (l ++ []); rw [List.append_nil]; exact HO.out.1, HO.out.2⟩⟩
      case round =>
        obtain ⟨k, rfl, hk, hg2, HK⟩ := hrel
        by_cases hkl : k < 16
        · have hkz : (k : Int) < 16 := by omega
          have HMC := Lib.hid (HMK.out k hkl)
          have HL2 : Hid ((l ++ marksN k).length ≤ 1073741824) := Lib.hid (by rw [List.length_append, marks_len, HN.out]; omega)
          have HM1 := Lib.hid (HMS.out k)
          go_wp2_with (first
            | (go_at_call 60; (with_reducible refine (HMC.out _).mono ?_); rintro e w5 ⟨rfl, hb5⟩; have HB5 := Lib.hid (bl_then HK.out.2 hb5); have HO5 := Lib.hid (Rowl.own_later HK.out.1 hb5); clear hb5)
            | (at_builtin; refine wpList_append_mvd rfl _ _ rfl W.heap.size _ (l ++ marksN k) rfl HO5.out rfl HL2.out HB5.out.size ?_; rintro v' w6 ho6 hm6 -; rw [List.append_assoc, ← HM1.out] at ho6; have HO6 := Lib.hid ho6; have HM6 := Lib.hid (HB5.out.trans (hm6.below HB5.out.size (fun g hg => (own_at HO5.out g hg).1))); clear ho6 hm6))
          go_roundg (16 - (k + 1))
          case rel => exact ⟨k + 1, by go_num, by omega, by omega, Lib.hid ⟨HO6.out, HM6.out⟩⟩
          case measure => omega
        · obtain rfl : k = 16 := by omega
          go_wp2
          go_ret
          exact ⟨_, rfl, HK.out.1, HK.out.2⟩
theorem own_cap {n₀ : Nat} {W : World} {g n c : Nat} {l : List Int} (h : OwnPts n₀ W (.slice (some ⟨g, 0, none⟩) n c) l) : l.length = n ∧ n ≤ c := by
  rcases h.2 with ⟨e, _⟩ | ⟨g', cap, cur, e, _, _, h1, h2, _⟩
  · cases e
  · injection e with e1 e2 e3
    subst e2
    subst e3
    exact ⟨rfl, by omega⟩
def Lnt (W : World) (v : Value) (l : List Int) : Prop := ∃ g c, v = .slice (some ⟨g, 0, none⟩) l.length c ∧ OwnPts 0 W (.slice (some ⟨g, 0, none⟩) (l.length + 16) c) (l ++ marksN 16)
theorem Lnt.on {W W' : World} {v : Value} {l : List Int} (h : Lnt W v l) (hb : Below W.heap.size W W') : Lnt W' v l := by
  obtain ⟨g, c, e, h⟩ := h
  exact ⟨g, c, e, Rowl.own_later h hb⟩
theorem Lnt.read {W : World} {v : Value} {l : List Int} (h : Lnt W v l) : ReadPts W v l := by
  obtain ⟨g, c, rfl, h⟩ := h
  have h1 := (ReadPts.own h).len
  rw [List.length_append] at h1
  refine ⟨by omega, .inr ⟨g, 0, c, rfl, fun i x hi => ?_⟩⟩
  have := own_cells h (i := i) (x := x) (by rw [List.getElem?_append_left (List.getElem?_eq_some_iff.1 hi).1]; exact hi)
  rwa [Nat.zero_add]
set_option maxHeartbeats 1000000 in
theorem lent_calls {W : World} {lv : Value} {l : List Int} (hr : ReadPts W lv l) (hl : l.length ≤ 1073741000) :
    Calls Tryz.prog 17 #[lv] W fun e W' => ∃ v, e = .returned v ∧ Lnt W' v l ∧ Below W.heap.size W W' := by
  have HF := Lib.hid (fullRunes_calls hr hl)
  obtain ⟨A, c, rfl⟩ := hr.slice
  obtain ⟨n, hn⟩ : ∃ n, l.length = n := ⟨_, rfl⟩
  have HN := Lib.hid hn
  rw [hn] at HF ⊢
  clear hn hr hl
  go_enter Tryz.func17, Tryz.ntmps17
  go_wp2_with (go_at_call 52; (with_reducible refine HF.out.mono ?_); rintro e w1 ⟨v, rfl, ho, hb⟩; obtain ⟨g, c1, e1⟩ := ownsRow_succ (k := n + 15) (by have := ho; rw [OwnPts, List.length_append, marks_len, HN.out] at this; exact this); subst e1; have hcp : (n : Int) ≤ (c1 : Int) := (by have := (own_cap ho).2; omega); have HO := Lib.hid ho; have HB := Lib.hid hb; clear ho hb)
  go_wp2
  go_ret
  exact ⟨_, rfl, ⟨g, c1, (by rw [HN.out]; rfl), (by rw [HN.out]; exact own_base HO.out (Nat.zero_le _))⟩, HB.out⟩
end Go.Proofs.YtikpkjpnehkbfaaGreatDoor.Nw
namespace Go.Proofs.YtikpkjpnehkbfaaGreatDoor.Nw
open Go Go.RowKit Go.Shelf Sp Pr Rf Nm Sb
theorem mark_from (i n : Nat) (h1 : n ≤ i) (h2 : i < n + 16) (w : World) : Calls Tryz.prog 60 #[.int .i64 90, .int .i64 ((i : Int) - (n : Int))] w fun e w' => e = .returned (.int .i32 (markN 90 (i - n))) ∧ Below w.heap.size w w' := by
  have := mark_at (i - n) (by omega) w
  rwa [show ((i - n : Nat) : Int) = (i : Int) - (n : Int) by omega] at this
set_option maxHeartbeats 4000000 in
set_option maxRecDepth 100000 in
theorem keptfull_calls {W : World} {g c : Nat} {lv : Value} {l : List Int} (hr : ReadPts W lv l) (hl : l.length ≤ 1073741000) (ho : ∀ i x, (l ++ marksN 16)[i]? = some x → W.cell? ⟨g, i, none⟩ = some (.int .i32 x)) :
    Calls Tryz.prog 61 #[.slice (some ⟨g, 0, none⟩) (l.length + 16) c, lv] W fun e W' => e = .returned (.bool true) ∧ Below W.heap.size W W' := by
  obtain ⟨A, cl, rfl, hc⟩ := read_addr hr
  have HC := Lib.hid hc
  have HO := Lib.hid ho
  obtain ⟨n, hn⟩ : ∃ n, l.length = n := ⟨_, rfl⟩
  have HN := Lib.hid hn
  have HMA := Lib.hid mark_any
  have HMF := Lib.hid mark_from
  rw [hn] at hl ⊢
  clear hc hr hn ho
  have hne : ((((n + 16 : Nat) : Int)) == (n : Int) + 16) = true := by simp
  obtain ⟨m, hm⟩ : ∃ m, m = n + 16 := ⟨_, rfl⟩
  have HMN := Lib.hid hm
  have hw : IntKind.i64.wrap ((n : Int) + 16) = (m : Int) := (IntWalk.i64_in _ (by omega)).trans (by omega)
  rw [← hm]
  clear hne hm
  go_enter Tryz.func61, Tryz.ntmps61
  go_wp2
  go_loopg [5, 6] (n + 16) (fun gk vi vt wr => ∃ (i : Nat), vi = .int .i64 i ∧ i ≤ m ∧ n + 16 - i ≤ gk ∧ Hid (Below W.heap.size W wr))
  case atStart => exact ⟨0, rfl, Nat.zero_le _, by omega, Lib.hid (Below.refl _ _)⟩
  case round =>
    obtain ⟨i, rfl, hi, hg1, HI⟩ := hrel
    by_cases hlt : i < m
    · have hzm : (i : Int) < (m : Int) := by omega
      obtain ⟨y, hy⟩ : ∃ y, (l ++ marksN 16)[i]? = some y := ⟨_, List.getElem?_eq_getElem (by rw [List.length_append, marks_len, HN.out, ← HMN.out]; exact hlt)⟩
      have cy := Sb.later_cell HI.out (HO.out i y hy)
      by_cases hin : i < n
      · have hz : (i : Int) < (n : Int) := by omega
        rw [List.getElem?_append_left (by rw [HN.out]; exact hin)] at hy
        obtain ⟨b, off, rfl, cx0⟩ := HC.out i y hy
        have cx := Sb.later_cell HI.out cx0
        clear cx0 hy
        go_wp2_with (go_at_call 60; (with_reducible refine (HMA.out _ _).mono ?_); rintro e w5 ⟨⟨r, rfl⟩, rfl⟩)
        go_roundg (n + 16 - (i + 1))
        case rel => exact ⟨i + 1, by go_num, by omega, by omega, HI⟩
        case measure => omega
      · have hz : ¬ (i : Int) < (n : Int) := by omega
        have hmi : i < n + 16 := by rw [← HMN.out]; exact hlt
        rw [List.getElem?_append_right (by rw [HN.out]; omega), HN.out, marks_at (by omega)] at hy
        obtain rfl : markN 90 (i - n) = y := Option.some.inj hy
        have HMC := Lib.hid (HMF.out i n (by omega) hmi)
        have hsub : IntKind.i64.wrap ((i : Int) - (n : Int)) = (i : Int) - (n : Int) := (IntWalk.i64_in _ (by omega)).trans (by omega)
        clear hy
        go_wp2_with (go_at_call 60; (with_reducible refine (HMC.out _).mono ?_); rintro e w5 ⟨rfl, hb5⟩; have HB5 := Lib.hid (bl_then HI.out hb5); have cy5 := Sb.later_cell hb5 cy; clear hb5)
        go_roundg (n + 16 - (i + 1))
        case rel => exact ⟨i + 1, by go_num, by omega, by omega, HB5⟩
        case measure => omega
    · have hzm : ¬ (i : Int) < (m : Int) := by omega
      go_wp2
      go_ret
      exact ⟨rfl, HI.out⟩
set_option maxHeartbeats 1000000 in
theorem kept_calls {W : World} {v lv : Value} {l : List Int} (hx : Lnt W v l) (hr : ReadPts W lv l) (hl : l.length ≤ 1073741000) :
    Calls Tryz.prog 26 #[v, lv] W fun e W' => e = .returned (.bool true) ∧ Below W.heap.size W W' := by
  obtain ⟨g, c, rfl, ho⟩ := hx
  have HF := Lib.hid (keptfull_calls (g := g) (c := c) hr hl (fun i x hi => own_cells ho hi))
  obtain ⟨A, cl, rfl⟩ := hr.slice
  have hcp := (own_cap ho).2
  obtain ⟨n, hn⟩ : ∃ n, l.length = n := ⟨_, rfl⟩
  rw [hn] at HF hcp hl ⊢
  obtain ⟨m, hm⟩ : ∃ m, m = n + 16 := ⟨_, rfl⟩
  rw [← hm] at HF hcp
  have hw : IntKind.i64.wrap ((n : Int) + 16) = (m : Int) := (IntWalk.i64_in _ (by omega)).trans (by omega)
  have hcz : (m : Int) ≤ (c : Int) := by omega
  have HM := Lib.hid hm
  clear hn hr ho hm
  go_enter Tryz.func26, Tryz.ntmps26
  go_wp2_with (go_at_call 61; (with_reducible refine HF.out.mono ?_); rintro e w1 ⟨rfl, hb⟩; have HB := Lib.hid hb; clear hb)
  go_ret
  exact ⟨rfl, HB.out⟩
end Go.Proofs.YtikpkjpnehkbfaaGreatDoor.Nw
namespace Go.Proofs.YtikpkjpnehkbfaaGreatDoor.Nw
open Go Go.RowKit Go.Shelf Sp Pr Rf Nm Sb
abbrev OwnBack (r : List Int) (W : World) (e : Ending) (w' : World) : Prop := ∃ A c, e = .returned (.slice A r.length c) ∧ OwnPts W.heap.size w' (.slice A r.length c) r ∧ Below W.heap.size W w'
theorem back_own {W w' : World} {l : List Int} {e : Ending} (h : ∃ v', e = .returned v' ∧ OwnPts W.heap.size w' v' l ∧ Below W.heap.size W w') : OwnBack l W e w' := by
  obtain ⟨v, rfl, ho, hb⟩ := h
  obtain ⟨A, c, rfl⟩ := YtikpkjpnehkbfaaGreatDoor.Rowl.own_slice ho
  exact ⟨A, c, rfl, ho, hb⟩
abbrev DecOwn (w : World) (p : Nat) (l r : List Int) : Prop := ∀ W lv, Below w.heap.size w W → ReadPts W lv l → Calls Tryz.prog 18 #[.pointer (some ⟨p, 0, none⟩), lv] W (OwnBack r W)
theorem decOwn {w : World} {p : Nat} {D : PD} (H : PropsAt w.heap.size w p D) (hg : Nm.Good D) {l r : List Int} (h : decN D l = r) (hl : (flat D l).length ≤ 16777216) : DecOwn w p l r := fun W lv hb hr =>
  (dec_calls_any H hg hb hr hl).mono fun e w' h' => by rw [h] at h'; exact back_own h'
abbrev ComOwn (w : World) (p : Nat) (l r : List Int) : Prop := ∀ W lv, Below w.heap.size w W → ReadPts W lv l → Calls Tryz.prog 19 #[.pointer (some ⟨p, 0, none⟩), lv] W (OwnBack r W)
theorem comOwn {w : World} {p : Nat} {D : PD} (H : PropsAt w.heap.size w p D) (hg : Nm.Good D) {l r : List Int} (h : compN D l = r) (hl : (flat D l).length ≤ 16777216) : ComOwn w p l r := fun W lv hb hr =>
  (comp_calls_any H hg hb hr hl).mono fun e w' h' => by rw [h] at h'; exact back_own h'
def Apt (a b : Value) : Prop := ∀ g, a.ownBlock = some g → b.ownBlock ≠ some g
theorem apt_new {n₀ : Nat} {W W' : World} {a b : Value} {la lb : List Int} (ha : OwnPts n₀ W a la) (hb : OwnPts W.heap.size W' b lb) : Apt a b := fun g h1 h2 => by
  have := (own_at ha g h1).2
  have := (own_at hb g h2).1
  omega
structure Four (B : Nat) (W : World) (a b c d : Value) (la lc : List Int) : Prop where
  oa : OwnPts B W a la
  ob : OwnPts B W b la
  oc : OwnPts B W c lc
  od : OwnPts B W d lc
  ab : Apt a b
  ac : Apt a c
  ad : Apt a d
  bc : Apt b c
  bd : Apt b d
  cd : Apt c d
theorem Four.on {B : Nat} {W W' : World} {a b c d : Value} {la lc : List Int} (h : Four B W a b c d la lc) (hb : Below W.heap.size W W') : Four B W' a b c d la lc :=
  ⟨Rowl.own_later h.oa hb, Rowl.own_later h.ob hb, Rowl.own_later h.oc hb, Rowl.own_later h.od hb, h.ab, h.ac, h.ad, h.bc, h.bd, h.cd⟩
theorem apt_sym {a b : Value} (h : Apt a b) : Apt b a := fun g h1 h2 => h g h2 h1
def four {α : Type} (a b c d : α) : Nat → α
  | 0 => a
  | 1 => b
  | 2 => c
  | _ => d
theorem four_lt {k : Nat} (h : k < 4) : k = 0 ∨ k = 1 ∨ k = 2 ∨ k = 3 := by omega
set_option maxHeartbeats 1000000 in
theorem four_apart {B : Nat} {W : World} {a b c d : Value} {la lc : List Int} (h : Four B W a b c d la lc) (hB : B ≤ W.heap.size) (hla : la.length ≤ 1073741824) (hlc : lc.length ≤ 1073741824) :
    Calls Tryz.prog 25 #[.slice (some ⟨W.heap.size, 0, none⟩) 4 4] (W.alloc (.cells #[a, b, c, d] 22)) fun e w' => e = .returned (.bool true) ∧ Below B W w' := by
  have hal : Below B W (W.alloc (.cells #[a, b, c, d] 22)) := (Below.refl B W).alloc hB _
  have hsz : B ≤ (W.alloc (.cells #[a, b, c, d] 22)).heap.size := by rw [World.size_alloc]; omega
  have h2 := h.on ((Below.refl _ W).alloc (Nat.le_refl _) (.cells #[a, b, c, d] 22))
  refine (Rowl.ApartRunes_calls markN (fun k i w a1 a2 a3 a4 => markN_calls k i w a1 a2 a3 a4) (W.alloc (.cells #[a, b, c, d] 22)) B 4 (four a b c d) (four la.length la.length lc.length lc.length) (four (enc la) (enc la) (enc lc) (enc lc)) W.heap.size 0 4 ?_ ?_ ?_ ?_ (by omega) ?_ hsz).mono fun e w' hh => ⟨hh.1, hal.trans hh.2⟩
  · intro k hk
    rcases four_lt hk with rfl | rfl | rfl | rfl
    · exact h2.oa
    · exact h2.ob
    · exact h2.oc
    · exact h2.od
  · intro j k hj hk hne g hg
    rcases four_lt hj with rfl | rfl | rfl | rfl <;> rcases four_lt hk with rfl | rfl | rfl | rfl
    all_goals first
      | exact absurd rfl hne
      | exact h.ab g hg
      | exact h.ac g hg
      | exact h.ad g hg
      | exact h.bc g hg
      | exact h.bd g hg
      | exact h.cd g hg
      | exact apt_sym h.ab g hg
      | exact apt_sym h.ac g hg
      | exact apt_sym h.ad g hg
      | exact apt_sym h.bc g hg
      | exact apt_sym h.bd g hg
      | exact apt_sym h.cd g hg
  · intro k hk
    have := cells_laid (e := 22) W [a, b, c, d] rfl (show 4 ≤ maxLen by decide) k (four a b c d k) (by rcases four_lt hk with rfl | rfl | rfl | rfl <;> rfl)
    exact this
  · intro k hk e
    rcases four_lt hk with rfl | rfl | rfl | rfl
    · exact absurd (own_at h.oa _ e).2 (Nat.lt_irrefl _)
    · exact absurd (own_at h.ob _ e).2 (Nat.lt_irrefl _)
    · exact absurd (own_at h.oc _ e).2 (Nat.lt_irrefl _)
    · exact absurd (own_at h.od _ e).2 (Nat.lt_irrefl _)
  · intro k hk
    rcases four_lt hk with rfl | rfl | rfl | rfl <;> (show _ ≤ _; simp only [four]; omega)
end Go.Proofs.YtikpkjpnehkbfaaGreatDoor.Nw
namespace Go.Proofs.YtikpkjpnehkbfaaGreatDoor.Nw
open Go Go.RowKit Go.Shelf Sp Pr Rf Nm Sb
set_option maxHeartbeats 2000000 in
theorem nrows_bad (f : ByteArray) (lv : Value) {m0 : Int} {ev : Value} (w : World) (hv : Vars w.heap.size w m0 ev) (hkd : KindsAt w) {k : Int} {o : Option Int} (h : parse f.data.toList = .error (k, o)) :
    Calls Tryz.prog 3 #[.string f, lv] w fun e w' => e = .returned (.bool true) ∧ Below w.heap.size w w' := by
  have RD := Lib.hid (nread_bad (m := m0) (ev := ev) f w hkd h)
  have HW := Lib.hid (worksAt hv)
  clear h hv hkd
  go_enter Tryz.func3, Tryz.ntmps3
  go_wp2_with (first
    | (go_at_call 15; (with_reducible refine RD.out.mono ?_); rintro e w1 ⟨rfl, hb⟩)
    | (go_at_call 16; (with_reducible refine (HW.out _ hb).mono ?_); rintro e w2 ⟨rfl, hb2⟩))
  go_ret
  exact ⟨rfl, bl_then hb hb2⟩
abbrev SameB (w : World) (va vb : Value) : Prop := ∀ W, Below w.heap.size w W → Calls Tryz.prog 22 #[va, vb] W fun e W' => e = .returned (.bool true) ∧ Below W.heap.size W W'
theorem sameB {w : World} {va vb : Value} {l : List Int} (h1 : ReadPts w va l) (h2 : ReadPts w vb l) : SameB w va vb := fun W hb => same_true _ _ l _ (h1.on hb) (h2.on hb)
set_option maxHeartbeats 8000000 in
set_option maxRecDepth 100000 in
theorem nrows_good (f : ByteArray) (lv : Value) (l : List Int) {m0 : Int} {ev : Value} (w : World) (hv : Vars w.heap.size w m0 ev) (hkd : KindsAt w) (hl : ReadPts w lv l) (h32 : ∀ x ∈ l, B32 x) (hs : f.size + l.length ≤ 1048576) {D : PD} (h : parse f.data.toList = .ok D) :
    Calls Tryz.prog 3 #[.string f, lv] w fun e w' => e = .returned (.bool true) ∧ Below w.heap.size w w' := by
  have hg := good_of h
  have RG := Lib.hid (nread_good f w hv hkd (by omega) h)
  have HW := Lib.hid (worksAt hv)
  have HG := Lib.hid hg
  have hF : (Nm.flat D l).length ≤ 16777216 := flat_le hg (by omega)
  have HF := Lib.hid hF
  have HFD : Hid ((decN D l).length ≤ 1073741824) := Lib.hid (by unfold decN; rw [ordR_length]; exact Nat.le_trans hF (by decide))
  have HFC : Hid ((compN D l).length ≤ 1073741824) := Lib.hid (by have h1 := (flat_length hg (compN D l)).1; rw [flat_comp_len hg] at h1; exact Nat.le_trans h1 (Nat.le_trans hF (by decide)))
  have H32 := Lib.hid h32
  have HLN : Hid (l.length ≤ 1073741000) := Lib.hid (by omega)
  have HLM : Hid (l.length ≤ 1073741824) := Lib.hid (by omega)
  obtain ⟨A0, C0, rfl⟩ := hl.slice
  have RL := Lib.hid hl
  have hsz : l.length ≤ 1048576 := by omega
  clear hg hF hl h hv hkd h32 hs
  obtain ⟨d, hd⟩ : ∃ d, decN D l = d := ⟨_, rfl⟩
  obtain ⟨c, hc⟩ : ∃ c, compN D l = c := ⟨_, rfl⟩
  have HD := Lib.hid hd
  have HC := Lib.hid hc
  rw [hd] at HFD
  rw [hc] at HFC
  clear hd hc
  obtain ⟨n, hn⟩ : ∃ n, l.length = n := ⟨_, rfl⟩
  have HN := Lib.hid hn
  rw [hn] at RL hsz ⊢
  clear hn
  go_enter Tryz.func3, Tryz.ntmps3
  go_wp2_with (first
    | (go_at_call 15; (with_reducible refine RG.out.mono ?_); rintro e w1 ⟨p, q, st, rfl, hp, hq, rfl, hb⟩; have HBW := Lib.hid hb; have HP := Lib.hid hp; have HQ := Lib.hid hq; have HR1 := Lib.hid (RL.out.on hb); have DO1 := Lib.hid (decOwn hp HG.out HD.out HF.out); have CO1 := Lib.hid (comOwn hp HG.out HC.out HF.out); clear hp hq hb)
    | (go_at_call 17; (with_reducible refine (lent_calls HR1.out HLN.out).mono ?_); rintro e w2 ⟨xv, rfl, hx, hb⟩; have HRX0 := Lib.hid hx.read; have HLX := Lib.hid hx; obtain ⟨gx, cx, hxe, hx2⟩ := hx; rw [HN.out] at hxe; subst hxe; have HB2 := Lib.hid hb; clear hb hx2)
    | (go_at_call 18; (with_reducible refine (DO1.out _ _ HB2.out HRX0.out).mono ?_); rintro e w3 ⟨A3, K3, rfl, O1, hb⟩; have HB3 := Lib.hid hb; have HO1 := Lib.hid O1; have HBT3 := Lib.hid (bl_then HB2.out hb); have HRX3 := Lib.hid (HRX0.out.on hb); have DO2 := Lib.hid DO1.out; clear DO1 hb O1)
    | (go_at_call 18; (with_reducible refine (DO2.out _ _ HBT3.out HRX3.out).mono ?_); rintro e w4 ⟨A4, K4, rfl, O2, hb⟩; have HB4 := Lib.hid hb; have HO2 := Lib.hid O2; have HBT4 := Lib.hid (bl_then HBT3.out hb); have HRX4 := Lib.hid (HRX3.out.on hb); clear DO2 hb O2)
    | (go_at_call 19; (with_reducible refine (CO1.out _ _ HBT4.out HRX4.out).mono ?_); rintro e w5 ⟨A5, K5, rfl, O3, hb⟩; have HB5 := Lib.hid hb; have HO3 := Lib.hid O3; have HBT5 := Lib.hid (bl_then HBT4.out hb); have HRX5 := Lib.hid (HRX4.out.on hb); have CO2 := Lib.hid CO1.out; clear CO1 hb O3)
    | (go_at_call 19; (with_reducible refine (CO2.out _ _ HBT5.out HRX5.out).mono ?_); rintro e w6 ⟨A6, K6, rfl, O4, hb⟩; have HB6 := Lib.hid hb; have HO4 := Lib.hid O4; have HBT6 := Lib.hid (bl_then HBT5.out hb); have HRX6 := Lib.hid (HRX5.out.on hb); clear CO2 hb O4))
  have hz2 := HB3.out.size
  have hz3 := HB4.out.size
  have hz4 := HB5.out.size
  have HFR : Hid (Four w2.heap.size w6 (.slice A3 d.length K3) (.slice A4 d.length K4) (.slice A5 c.length K5) (.slice A6 c.length K6) d c) := Lib.hid
    { oa := Rowl.own_later (Rowl.own_later (Rowl.own_later HO1.out HB4.out) HB5.out) HB6.out
      ob := Rowl.own_later (Rowl.own_later (own_base HO2.out (by omega)) HB5.out) HB6.out
      oc := Rowl.own_later (own_base HO3.out (by omega)) HB6.out
      od := own_base HO4.out (by omega)
      ab := apt_new HO1.out HO2.out
      ac := apt_new (Rowl.own_later HO1.out HB4.out) HO3.out
      ad := apt_new (Rowl.own_later (Rowl.own_later HO1.out HB4.out) HB5.out) HO4.out
      bc := apt_new HO2.out HO3.out
      bd := apt_new (Rowl.own_later HO2.out HB5.out) HO4.out
      cd := apt_new HO3.out HO4.out }
  have HB26 : Hid (Below w2.heap.size w2 w6) := Lib.hid (bl_then (bl_then (bl_then HB3.out HB4.out) HB5.out) HB6.out)
  clear hz2 hz3 hz4 HO1 HO2 HO3 HO4 HRX0 HRX3 HRX4 HRX5 HBT3 HBT4 HBT5 HB3 HB4 HB5 HB6
  have RD := Lib.hid (rdecAt HQ.out HG.out HD.out H32.out HF.out)
  have RC := Lib.hid (rcomAt HQ.out HG.out HC.out H32.out HF.out)
  have HRL6 := Lib.hid (HR1.out.on HBT6.out)
  go_wp2_with (first
    | (go_at_call 20; (with_reducible refine (RD.out _ _ HBT6.out HRL6.out).mono ?_); rintro e w7 ⟨A7, K7, rfl, R7, hb⟩; have HB7 := Lib.hid hb; have HR7 := Lib.hid R7; clear RD hb R7)
    | (go_at_call 21; (with_reducible refine (RC.out _ _ (bl_then HBT6.out HB7.out) (HRL6.out.on HB7.out)).mono ?_); rintro e w8 ⟨A8, K8, rfl, R8, hb⟩; have HB8 := Lib.hid (bl_then HB7.out hb); have HR8 := Lib.hid R8; replace HR7 := Lib.hid (HR7.out.on hb); clear RC hb R8))
  have HF8 := Lib.hid (HFR.out.on HB8.out)
  have S1 := Lib.hid (sameB (ReadPts.own HF8.out.oa) HR7.out)
  have S2 := Lib.hid (sameB (ReadPts.own HF8.out.ob) HR7.out)
  have S3 := Lib.hid (sameB (ReadPts.own HF8.out.oc) HR8.out)
  have S4 := Lib.hid (sameB (ReadPts.own HF8.out.od) HR8.out)
  have HB28 := Lib.hid (bl_then HB26.out HB8.out)
  have HB18 := Lib.hid (bl_then HBT6.out HB8.out)
  have HRX8 := Lib.hid (HRX6.out.on HB8.out)
  have HRL8 := Lib.hid (HRL6.out.on HB8.out)
  have CA : Hid (∀ z, CutAt w1 p l z (cutB st.d l z)) := Lib.hid (fun z => cutAt HP.out HG.out rfl HLM.out)
  have RCA : Hid (∀ z, RCutAt w1 q l z (cutB st.d l z)) := Lib.hid (fun z => rcutAt HQ.out HG.out rfl H32.out HLM.out)
  clear HR7 HR8 HFR HRX6 HRL6 HBT6 HB26 RG HF HD HC RL
  have HB := Below.refl w8.heap.size w8
  obtain ⟨dn, hdn⟩ : ∃ k, d.length = k := ⟨_, rfl⟩
  obtain ⟨cn, hcn⟩ : ∃ k, c.length = k := ⟨_, rfl⟩
  rw [hdn] at S1 S2 HF8
  rw [hcn] at S3 S4 HF8
  have HDN := Lib.hid hdn
  have HCN := Lib.hid hcn
  rw [hdn, hcn]
  clear hdn hcn
  go_wp2_with (first
    | (go_at_call 22; (with_reducible refine (S1.out _ HB).mono ?_); rintro e w9 ⟨rfl, hb⟩; replace HB := bl_then HB hb; clear hb)
    | (go_at_call 22; (with_reducible refine (S2.out _ HB).mono ?_); rintro e w9 ⟨rfl, hb⟩; replace HB := bl_then HB hb; clear hb)
    | (go_at_call 22; (with_reducible refine (S3.out _ HB).mono ?_); rintro e w9 ⟨rfl, hb⟩; replace HB := bl_then HB hb; clear hb)
    | (go_at_call 22; (with_reducible refine (S4.out _ HB).mono ?_); rintro e w9 ⟨rfl, hb⟩; replace HB := bl_then HB hb; clear hb))
  have HB9 := Lib.hid HB
  clear HB S1 S2 S3 S4
  obtain ⟨m, hm⟩ : ∃ m, m = n + 1 := ⟨_, rfl⟩
  have hw : IntKind.i64.wrap ((n : Int) + 1) = (m : Int) := (IntWalk.i64_in _ (by omega)).trans (by omega)
  have hm2 : m ≤ 1048577 := by omega
  have HM := Lib.hid hm
  clear hm
  go_loopg [15] (m + 2) (fun gk vi wr => ∃ z : Int, vi = .int .i64 z ∧ -1 ≤ z ∧ z ≤ (m : Int) + 1 ∧ (m : Int) + 1 - z ≤ gk ∧ Hid (Below w8.heap.size w8 wr))
  case atStart => exact ⟨-1, rfl, by omega, by omega, by omega, HB9⟩
  case round =>
    obtain ⟨z, rfl, hz0, hz1, hg1, HI⟩ := hrel
    obtain ⟨b, hb⟩ : ∃ b, cutB st.d l z = b := ⟨_, rfl⟩
    have CC := Lib.hid (CA.out z)
    have RCC := Lib.hid (RCA.out z)
    rw [hb] at CC RCC
    clear hb
    by_cases hlt : z ≤ (m : Int)
    · obtain ⟨z', hz'⟩ : ∃ z', z' = z + 1 := ⟨_, rfl⟩
      have hw2 : IntKind.i64.wrap (z + 1) = z' := (IntWalk.i64_in _ (by omega)).trans hz'.symm
      have HZ := Lib.hid hz'
      clear hz'
      go_wp2_with (first
        | (go_at_call 23; (with_reducible refine (CC.out _ _ (bl_then HB18.out HI.out) (HRX8.out.on HI.out)).mono ?_); rintro e w10 ⟨rfl, hb⟩; have HI2 := Lib.hid (bl_then HI.out hb); clear hb)
        | (go_at_call 24; (with_reducible refine (RCC.out _ _ (bl_then HB18.out HI2.out) (HRL8.out.on HI2.out)).mono ?_); rintro e w11 ⟨rfl, hb⟩; have HI3 := Lib.hid (bl_then HI2.out hb); clear hb))
      go_roundg ((m : Int) + 1 - z').toNat
      case rel => have := HZ.out; exact ⟨z', by first | rfl | go_num, by omega, by omega, by omega, HI3⟩
      case measure => have := HZ.out; omega
    · have HB2r := Lib.hid (bl_then HB28.out HI.out)
      have hbz := HB2r.out.size
      have FA := Lib.hid (four_apart (HF8.out.on HI.out) hbz HFD.out HFC.out)
      clear hbz CC RCC
      go_wp2_with (first
        | (go_at_call 25; (refine FA.out.mono ?_); rintro e w12 ⟨rfl, hb⟩; have HB12 := Lib.hid hb; have HX12 := Lib.hid (HLX.out.on (HB2r.out.trans hb)); have HB112 := Lib.hid ((bl_then HB18.out HI.out).trans (hb.mono HB2.out.size)); clear hb)
        | (go_at_call 26; (with_reducible refine (kept_calls HX12.out (HR1.out.on HB112.out) HLN.out).mono ?_); rintro e w13 ⟨rfl, hb⟩; have HB13 := Lib.hid (bl_then HBW.out (bl_then HB112.out hb)); clear hb)
        | (go_at_call 16; (with_reducible refine (HW.out _ HB13.out).mono ?_); rintro e w14 ⟨rfl, hb⟩; have HB14 := Lib.hid (bl_then HB13.out hb); clear hb))
      go_ret
      exact ⟨rfl, HB14.out⟩
theorem nrows_calls (f : ByteArray) (lv : Value) (l : List Int) {m0 : Int} {ev : Value} (w : World) (hv : Vars w.heap.size w m0 ev) (hkd : KindsAt w) (hl : ReadPts w lv l) (h32 : ∀ x ∈ l, B32 x) (hs : f.size + l.length ≤ 1048576) :
    Calls Tryz.prog 3 #[.string f, lv] w fun e w' => e = .returned (.bool true) ∧ Below w.heap.size w w' := by
  cases hp : parse f.data.toList with
  | error x => exact nrows_bad f lv w hv hkd (k := x.1) (o := x.2) hp
  | ok D => exact nrows_good f lv l w hv hkd hl h32 hs hp
end Go.Proofs.YtikpkjpnehkbfaaGreatDoor.Nw
