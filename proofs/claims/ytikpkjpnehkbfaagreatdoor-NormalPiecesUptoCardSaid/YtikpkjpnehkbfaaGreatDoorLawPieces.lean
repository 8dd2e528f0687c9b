/- The law NormalPieces: the walk. -/
import Derived.Test.YtikpkjpnehkbfaaGreatDoorNormWork
import Derived.Test.YtikpkjpnehkbfaaGreatDoorNormJoin
namespace Go.Proofs.YtikpkjpnehkbfaaGreatDoor.Nw
open Go Go.RowKit Go.Shelf Go.Proofs.YtikpkjpnehkbfaaGreatDoor.Sp Go.Proofs.YtikpkjpnehkbfaaGreatDoor.Pr Go.Proofs.YtikpkjpnehkbfaaGreatDoor.Rf Go.Proofs.YtikpkjpnehkbfaaGreatDoor.Nm Go.Proofs.YtikpkjpnehkbfaaGreatDoor.Sb
set_option linter.unusedSimpArgs false
set_option linter.unusedVariables false

set_option maxHeartbeats 2000000 in
theorem pieces_bad (f : ByteArray) (lv qv : Value) {m0 : Int} {ev : Value} (w : World) (hv : Vars w.heap.size w m0 ev) (hs : f.size ≤ 1048576) {x : Int × Option Int} (h : parse f.data.toList = .error x) :
    Calls Tryz.prog 7 #[.string f, lv, qv] w fun e w' => e = .returned (.bool true) ∧ Below w.heap.size w w' := by
  have RD := Lib.hid (parse_err hs hv h)
  have HW := Lib.hid (worksAt hv)
  clear h hv
  go_enter Tryz.func7, Tryz.ntmps7
  go_wp2_with (first
    | (go_at_call 31; refine RD.out.mono ?_; rintro e w1 ⟨⟨te, pv, rfl⟩, hb⟩)
    | (go_at_call 16; (with_reducible refine (HW.out _ hb).mono ?_); rintro e w2 ⟨rfl, hb2⟩))
  go_ret
  exact ⟨rfl, bl_then hb hb2⟩
/-! ### the stream, the row that came out, and the rest of what goes in -/
theorem own_wrt {X n₀ : Nat} {W W' : World} {v rv : Value} {l : List Int} (h : OwnPts n₀ W v l) (hw : Wrt X W W' rv) (hX : X < n₀) (hv : ∀ g, v.ownBlock = some g → rv.ownBlock ≠ some g) : OwnPts n₀ W' v l := by
  refine ⟨h.1, ?_⟩
  rcases h.2 with e | ⟨g, cap, cur, rfl, h1, h2, h3⟩
  · exact .inl e
  · exact .inr ⟨g, cap, cur, rfl, h1, (hw.block g (Array.getElem?_eq_some_iff.1 h2).1 (by omega) (hv g rfl)).trans h2, h3⟩
theorem own_mvd {n₀ : Nat} {W W' : World} {v v1 v2 : Value} {l : List Int} (h : OwnPts n₀ W v l) (hm : Mvd W W' v1 v2) (hv : ∀ g, v.ownBlock = some g → v1.ownBlock ≠ some g) : OwnPts n₀ W' v l := by
  refine ⟨h.1, ?_⟩
  rcases h.2 with e | ⟨g, cap, cur, rfl, h1, h2, h3⟩
  · exact .inl e
  · exact .inr ⟨g, cap, cur, rfl, h1, (hm.block g (Array.getElem?_eq_some_iff.1 h2).1 (hv g rfl)).trans h2, h3⟩
/-- Between two pieces. -/
structure PS (D : PD) (X p : Nat) (w1 : World) (T : List Int) (W : World) (vo : Value) (O R : List Int) (rv : Value) : Prop where
  pi : PI D T O R
  str : StrAt X W p rv
  rest : OwnPts (X + 1) W rv R
  out : OwnPts (X + 1) W vo O
  apart : ∀ g, vo.ownBlock = some g → rv.ownBlock ≠ some g
  below : Below X w1 W
theorem PS.lt {D : PD} {X p : Nat} {w1 W : World} {T O R : List Int} {vo rv : Value} (h : PS D X p w1 T W vo O R rv) : X + 1 ≤ W.heap.size := (Array.getElem?_eq_some_iff.1 h.str).1
/-- Behind a Write. -/
structure PW (D : PD) (X p : Nat) (w1 : World) (T : List Int) (W : World) (vo : Value) (O M R : List Int) (mv rv : Value) : Prop where
  pi : PI D T (O ++ M) R
  str : StrAt X W p rv
  rest : OwnPts (X + 1) W rv R
  out : OwnPts (X + 1) W vo O
  apart : ∀ g, vo.ownBlock = some g → rv.ownBlock ≠ some g
  read : ReadPts W mv M
  below : Below X w1 W
theorem PS.wrote {D : PD} (hg : Nm.Good D) {X p : Nat} {w1 W W' : World} {T O R M : List Int} {vo rv : Value} (h : PS D X p w1 T W vo O R rv) (hX : w1.heap.size = X) {out rv' : Value} {n : Nat} (hn : IsSet (classOf D) (decN D (R ++ M)) n)
    (h1 : ReadPts W' out ((decN D (R ++ M)).take n)) (h2 : StrAt X W' p rv') (h3 : OwnPts W.heap.size W' rv' ((decN D (R ++ M)).drop n)) (h4 : Wrt X W W' rv) :
    PW D X p w1 (T ++ M) W' vo O ((decN D (R ++ M)).take n) ((decN D (R ++ M)).drop n) out rv' := by
  refine ⟨h.pi.step hg hn, h2, own_base h3 h.lt, own_wrt h.out h4 (Nat.lt_succ_self _) h.apart, fun g hv e => ?_, h1, h.below.trans (h4.below (Nat.le_refl _) (by have := h.lt; omega) (fun g hg => by have := (own_at h.rest g hg).1; omega))⟩
  have a := (own_at h.out g hv).2
  have b := (own_at h3 g e).1
  omega
theorem PW.appended {D : PD} {X p : Nat} {w1 W W' : World} {T O M R : List Int} {vo mv rv vo' : Value} (h : PW D X p w1 T W vo O M R mv rv) (h1 : OwnPts (X + 1) W' vo' (O ++ M)) (h2 : Mvd W W' vo vo') : PS D X p w1 T W' vo' (O ++ M) R rv := by
  have hX := (Array.getElem?_eq_some_iff.1 h.str).1
  refine ⟨h.pi, (h2.block X hX (fun e => by have := (own_at h.out X e).1; omega)).trans h.str, own_mvd h.rest h2 (fun g e e' => h.apart g e' e), h1, fun g hv e => ?_, h.below.trans (h2.below (by omega) (fun g hg => by have := (own_at h.out g hg).1; omega))⟩
  have hl := (own_at h.rest g e).2
  rcases h2.own g hv with k | k
  · exact h.apart g k e
  · omega
/-- A piece, and what is behind it. -/
structure Cutd (w : World) (v : Value) (l : List Int) (m : Nat) (v1 v2 : Value) : Prop where
  left : ReadNum .i32 w v1 (l.take m)
  right : ReadNum .i32 w v2 (l.drop m)
theorem below_X {X : Nat} {w1 W : World} {k : IntKind} {v : Value} {l : List Int} (h : ReadNum k w1 v l) (hX : w1.heap.size = X) (hb : Below X w1 W) : ReadNum k W v l := by subst hX; exact h.on hb
theorem cutd_some {w : World} {b off c m : Nat} {l : List Int} (h : ReadNum .i32 w (.slice (some ⟨b, off, none⟩) l.length c) l) (hm : m ≤ l.length) :
    ReadNum .i32 w (.slice (some ⟨b, off, none⟩) m c) (l.take m) ∧ l.length ≤ c ∧ (c ≠ m → ReadNum .i32 w (.slice (some ⟨b, off + m, none⟩) (l.length - m) (c - m)) (l.drop m)) ∧ (c = m → ReadNum .i32 w (.slice (some ⟨b, off, none⟩) 0 0) (l.drop m)) := by
  have hlen := h.len
  rcases h.at_ with ⟨rfl, e⟩ | ⟨b', off', c', e, h1, h2, hc⟩
  · cases e
  · injection e with e1 e2 e3
    injection e1 with e1
    injection e1 with e1 e4
    subst e1 e3 e4
    have el : (l.take m).length = m := by rw [List.length_take]; omega
    refine ⟨⟨by rw [el]; omega, .inr ⟨b, off, c, by rw [el], by rw [el]; omega, h2, fun j x hj => ?_⟩⟩, h1, fun hne => ⟨by rw [List.length_drop]; omega, .inr ⟨b, off + m, c - m, by rw [List.length_drop], by rw [List.length_drop]; omega, by omega, fun j x hj => ?_⟩⟩, fun he => ⟨by rw [List.length_drop]; omega, .inr ⟨b, off, 0, by rw [List.length_drop, show l.length - m = 0 by omega], by rw [List.length_drop]; omega, by omega, fun j x hj => ?_⟩⟩⟩
    · rw [List.getElem?_take] at hj
      split at hj
      · exact hc j x hj
      · cases hj
    · rw [List.getElem?_drop] at hj
      have := hc _ x hj
      rwa [← Nat.add_assoc] at this
    · have := (List.getElem?_eq_some_iff.1 hj).1
      rw [List.length_drop] at this
      omega
set_option maxHeartbeats 8000000 in
set_option maxRecDepth 100000 in
theorem pieces_good (f : ByteArray) (lv : Value) (l : List Int) (qv : Value) (q : List Int) {m0 : Int} {ev : Value} (w : World) (hv : Vars w.heap.size w m0 ev) (hl : ReadNum .i32 w lv l) (hq : ReadNum .i64 w qv q) (hqb : ∀ x ∈ q, -9223372036854775808 ≤ x ∧ x ≤ 9223372036854775807) (hs : f.size + l.length + q.length ≤ 1048576) {D : PD} (h : parse f.data.toList = .ok D) :
    Calls Tryz.prog 7 #[.string f, lv, qv] w fun e w' => e = .returned (.bool true) ∧ Below w.heap.size w w' := by
  have hg := good_of h
  have PG := Lib.hid (parse_good (s := f) (by omega) hv h)
  have HW := Lib.hid (worksAt hv)
  have HG := Lib.hid hg
  have hF : (flat D l).length ≤ 16777216 := flat_le hg (by omega)
  have HF := Lib.hid hF
  have HFT : Hid (∀ T R O M : List Int, PI D T O R → (∃ u, T ++ M ++ u = l) → (flat D (R ++ M)).length ≤ 16777216) := Lib.hid (fun T R O M hp ⟨u, hu⟩ => Nat.le_trans (hp.flat_len hg) (by
    have := hF
    rw [← hu, flat_append, List.length_append] at this
    omega))
  have HOL : Hid (∀ T O R : List Int, PI D T O R → (∃ u, T ++ u = l) → O.length ≤ 16777216) := Lib.hid (fun T O R hp ⟨u, hu⟩ => by
    have h1 := congrArg List.length hp.dec
    have h2 : (decN D T).length = (flat D T).length := by unfold decN; exact ordR_length _ _
    have h3 := hF
    rw [← hu, flat_append, List.length_append] at h3
    rw [List.length_append] at h1
    omega)
  have HL := Lib.hid hl
  have HQ := Lib.hid hq
  have HQB := Lib.hid hqb
  obtain ⟨A0, C0, rfl⟩ := hl.pts.slice
  obtain ⟨A1, C1, rfl⟩ : ∃ A c, qv = .slice A q.length c := by
    rcases hq.at_ with ⟨rfl, rfl⟩ | ⟨b, off, c, rfl, _⟩
    · exact ⟨_, _, rfl⟩
    · exact ⟨_, _, rfl⟩
  obtain ⟨ln, hln⟩ : ∃ ln, l.length = ln := ⟨_, rfl⟩
  obtain ⟨qn, hqn⟩ : ∃ qn, q.length = qn := ⟨_, rfl⟩
  rw [hln] at HL hs ⊢
  rw [hqn] at HQ hs ⊢
  have HLN := Lib.hid hln
  have HQN := Lib.hid hqn
  clear hg hF hl hq hqb h hv hln hqn
  go_enter Tryz.func7, Tryz.ntmps7
  go_wp2_with (first
    | (go_at_call 31; refine PG.out.mono ?_; rintro e w1 ⟨p, rfl, H1, hb⟩; have HBW := Lib.hid hb; have HP := Lib.hid H1; have HL1 := Lib.hid (HL.out.on hb); have HQ1 := Lib.hid (HQ.out.on hb); clear H1 hb)
    | (go_at_call 27; (refine (new_calls _).mono ?_); rintro e w2 ⟨rfl, hst, hb, hz⟩; have HST := Lib.hid hst; have HB2 := Lib.hid hb; clear hst hb hz))
  obtain ⟨X, hX⟩ : ∃ X, w1.heap.size = X := ⟨_, rfl⟩
  have HX := Lib.hid hX
  rw [hX] at HST ⊢
  clear hX
  go_loopg [10, 11, 12] 1001 (fun gk vo vr vi wr => ∃ (i : Nat) (T U O R : List Int) (rv : Value), vi = .int .i64 i ∧ i ≤ qn ∧ i ≤ 1000 ∧ 1000 - i + 1 ≤ gk ∧ Hid (T ++ U = l ∧ ReadNum .i32 w1 vr U ∧ PS D X p w1 T wr vo O R rv))
  case atStart => exact ⟨0, [], l, [], [], .slice none 0 0, rfl, Nat.zero_le _, by omega, by omega, Lib.hid ⟨rfl, HL1.out, ⟨PI.zero D, HST.out, ⟨rfl, .inl ⟨rfl, rfl⟩⟩, ⟨rfl, .inl ⟨rfl, rfl⟩⟩, fun g h => (by cases h), (by have := HB2.out; rwa [HX.out] at this)⟩⟩⟩
  case round =>
    obtain ⟨i, T, U, O, R, rv, rfl, hi, hi2, hg1, HI⟩ := hrel
    have HXW : Hid (X + 1 ≤ wr.heap.size) := Lib.hid HI.out.2.2.lt
    by_cases hlt : i < qn ∧ i < 1000
    · obtain ⟨h1, h2⟩ := hlt
      have hz1 : (i : Int) < (qn : Int) := by omega
      have hz2 : (i : Int) < 1000 := by omega
      obtain ⟨z, hz⟩ : ∃ z, q[i]? = some z := ⟨_, List.getElem?_eq_getElem (by rw [HQN.out]; exact h1)⟩
      have hzb := HQB.out z (List.mem_of_getElem? hz)
      obtain ⟨b1, o1, rfl, cz0⟩ : ∃ b off, A1 = some ⟨b, off, none⟩ ∧ w1.cell? ⟨b, off + i, none⟩ = some (.int .i64 z) := by
        rcases HQ1.out.at_ with ⟨e, _⟩ | ⟨b, off, c, e, _, _, hc⟩
        · rw [e] at hz; simp at hz
        · injection e with e1 _ _
          exact ⟨b, off, e1, hc i z hz⟩
      have cz : wr.cell? ⟨b1, o1 + i, none⟩ = some (.int .i64 z) := Sb.later_cell (by have := HI.out.2.2.below; rwa [← HX.out] at this) cz0
      clear cz0 hz
      have HBX : Hid (Below w1.heap.size w1 wr) := Lib.hid (by have := HI.out.2.2.below; rwa [← HX.out] at this)
      rcases HI.out.2.1.at_ with ⟨hU, hv0⟩ | ⟨b, off, c, hv0, hc1, hc2, _⟩
      · subst hU
        subst hv0
        have hm0 : min (max z 0) 0 = 0 := by omega
        have HRD : Hid (ReadPts wr (.slice none 0 0) []) := Lib.hid ⟨by simp, .inl ⟨rfl, _, _, rfl⟩⟩
        go_wp2_with (first
          | (go_at_call 29; (with_reducible refine (write_calls (L := R) (M := []) HP.out HG.out (Nat.le_of_eq HX.out) HBX.out HI.out.2.2.str HI.out.2.2.rest HRD.out (HFT.out T R O [] HI.out.2.2.pi ⟨[], by rw [List.append_nil]; exact HI.out.1⟩)).mono ?_); rintro e w3 ⟨out, rv3, n3, hset, rfl, hro, hst, hor, hwrt, -⟩; have HPW := Lib.hid (HI.out.2.2.wrote HG.out HX.out hset hro hst hor hwrt); have HON := Lib.hid (HOL.out _ _ _ HPW.out.pi ⟨[], by rw [List.append_nil, List.append_nil]; have := HI.out.1; rwa [List.append_nil] at this⟩); clear hset hro hst hor hwrt)
          | (at_builtin; refine wpList_append_read rfl _ _ rfl (X + 1) u10 out O _ rfl HPW.out.out rfl HPW.out.read (by have := HON.out; rw [List.length_append] at this; omega) (Array.getElem?_eq_some_iff.1 HPW.out.str).1 ?_; intro v4 w4 ho4 hm4; have HPS := Lib.hid (HPW.out.appended ho4 hm4); clear ho4 hm4 HPW))
        go_roundg (1000 - i)
        case rel => exact ⟨i + 1, T ++ [], [], _, _, _, by go_num, by omega, by omega, by omega, Lib.hid ⟨by rw [List.append_nil]; exact HI.out.1, ⟨by simp, .inl ⟨rfl, rfl⟩⟩, HPS.out⟩⟩
        case measure => omega
      · obtain ⟨un, hun⟩ : ∃ un, U.length = un := ⟨_, rfl⟩
        have HUR := Lib.hid HI.out.2.1
        rw [hv0] at HUR
        have hul : un ≤ maxLen := by rw [← hun]; exact HUR.out.len
        unfold maxLen at hul
        rw [hun] at hv0 hc1
        subst hv0
        obtain ⟨m, hm⟩ : ∃ m : Nat, min (max z 0) (un : Int) = (m : Int) := ⟨(min (max z 0) (un : Int)).toNat, by omega⟩
        have hmu : m ≤ un := by omega
        have hmz : (m : Int) ≤ (un : Int) := by omega
        have hmc : (m : Int) ≤ (c : Int) := by omega
        have hm0 : (0 : Int) ≤ (m : Int) := by omega
        have huc : (un : Int) ≤ (c : Int) := by omega
        have HCD := Lib.hid (cutd_some HUR.out (by rw [hun]; exact hmu))
        have HRD : Hid (ReadPts wr (.slice (some ⟨b, off, none⟩) m c) (U.take m)) := Lib.hid (HCD.out.1.on HBX.out).pts
        have HTU : Hid (T ++ U.take m ++ U.drop m = l) := Lib.hid (by rw [List.append_assoc, List.take_append_drop]; exact HI.out.1)
        rw [hun] at HCD
        by_cases hcm : c = m
        · have HRT := Lib.hid (HCD.out.2.2.2 hcm)
          obtain rfl : un = m := by omega
          obtain rfl : un = c := by omega
          go_wp2_with (first
            | (go_at_call 29; (with_reducible refine (write_calls (L := R) (M := U.take un) HP.out HG.out (Nat.le_of_eq HX.out) HBX.out HI.out.2.2.str HI.out.2.2.rest HRD.out (HFT.out T R O _ HI.out.2.2.pi ⟨_, HTU.out⟩)).mono ?_); rintro e w3 ⟨out, rv3, n3, hset, rfl, hro, hst, hor, hwrt, -⟩; have HPW := Lib.hid (HI.out.2.2.wrote HG.out HX.out hset hro hst hor hwrt); have HON := Lib.hid (HOL.out _ _ _ HPW.out.pi ⟨_, HTU.out⟩); clear hset hro hst hor hwrt)
            | (at_builtin; refine wpList_append_read rfl _ _ rfl (X + 1) u10 out O _ rfl HPW.out.out rfl HPW.out.read (by have := HON.out; rw [List.length_append] at this; omega) (Array.getElem?_eq_some_iff.1 HPW.out.str).1 ?_; intro v4 w4 ho4 hm4; have HPS := Lib.hid (HPW.out.appended ho4 hm4); clear ho4 hm4 HPW))
          go_roundg (1000 - i)
          case rel => exact ⟨i + 1, T ++ U.take un, U.drop un, _, _, _, by go_num, by omega, by omega, by omega, Lib.hid ⟨HTU.out, HRT.out, HPS.out⟩⟩
          case measure => omega
        · have HRT := Lib.hid (HCD.out.2.2.1 hcm)
          go_wp2_with (first
            | (go_at_call 29; (with_reducible refine (write_calls (L := R) (M := U.take m) HP.out HG.out (Nat.le_of_eq HX.out) HBX.out HI.out.2.2.str HI.out.2.2.rest HRD.out (HFT.out T R O _ HI.out.2.2.pi ⟨_, HTU.out⟩)).mono ?_); rintro e w3 ⟨out, rv3, n3, hset, rfl, hro, hst, hor, hwrt, -⟩; have HPW := Lib.hid (HI.out.2.2.wrote HG.out HX.out hset hro hst hor hwrt); have HON := Lib.hid (HOL.out _ _ _ HPW.out.pi ⟨_, HTU.out⟩); clear hset hro hst hor hwrt)
            | (at_builtin; refine wpList_append_read rfl _ _ rfl (X + 1) u10 out O _ rfl HPW.out.out rfl HPW.out.read (by have := HON.out; rw [List.length_append] at this; omega) (Array.getElem?_eq_some_iff.1 HPW.out.str).1 ?_; intro v4 w4 ho4 hm4; have HPS := Lib.hid (HPW.out.appended ho4 hm4); clear ho4 hm4 HPW))
          go_roundg (1000 - i)
          case rel => exact ⟨i + 1, T ++ U.take m, U.drop m, _, _, _, by go_num, by omega, by omega, by omega, Lib.hid ⟨HTU.out, HRT.out, HPS.out⟩⟩
          case measure => omega
    · have HBX : Hid (Below w1.heap.size w1 wr) := Lib.hid (by have := HI.out.2.2.below; rwa [← HX.out] at this)
      have HRD : Hid (ReadPts wr u11 U) := Lib.hid (HI.out.2.1.on HBX.out).pts
      have HTU : Hid (T ++ U ++ [] = l) := Lib.hid (by rw [List.append_nil]; exact HI.out.1)
      have D1 := Lib.hid (decAt HP.out HG.out (l := l) rfl HF.out)
      have hgd : ((i : Int) < (qn : Int) ∧ ¬ (i : Int) < 1000) ∨ ¬ (i : Int) < (qn : Int) := by omega
      have R1 := Lib.hid HL1.out.pts
      rcases hgd with ⟨g1, g2⟩ | g1
      all_goals
        go_wp2_with (first
          | (go_at_call 29; (with_reducible refine (write_calls (L := R) (M := U) HP.out HG.out (Nat.le_of_eq HX.out) HBX.out HI.out.2.2.str HI.out.2.2.rest HRD.out (HFT.out T R O _ HI.out.2.2.pi ⟨_, HTU.out⟩)).mono ?_); rintro e w3 ⟨out, rv3, n3, hset, rfl, hro, hst, hor, hwrt, -⟩; have HPW := Lib.hid (HI.out.2.2.wrote HG.out HX.out hset hro hst hor hwrt); have HON := Lib.hid (HOL.out _ _ _ HPW.out.pi ⟨_, HTU.out⟩); clear hset hro hst hor hwrt)
          | (at_builtin; refine wpList_append_read rfl _ _ rfl (X + 1) u10 out O _ rfl HPW.out.out rfl HPW.out.read (by have := HON.out; rw [List.length_append] at this; omega) (Array.getElem?_eq_some_iff.1 HPW.out.str).1 ?_; intro v4 w4 ho4 hm4; have hps := HPW.out.appended ho4 hm4; obtain ⟨A5, K5, e5⟩ := YtikpkjpnehkbfaaGreatDoor.Rowl.own_slice hps.rest; have HPS := Lib.hid hps; have HE5 := Lib.hid e5; clear ho4 hm4 hps e5 HPW))
      all_goals
        generalize (decN D (R ++ U)).take n3 = Mm at *
        generalize (decN D (R ++ U)).drop n3 = Rr at *
        obtain ⟨rl, hrl⟩ : ∃ rl, Rr.length = rl := ⟨_, rfl⟩
        have HSE : Hid (StrAt X w4 p (.slice A5 rl K5)) := Lib.hid (by have := HPS.out.str; rw [HE5.out, hrl] at this; exact this)
        have HRE : Hid (ReadPts (w4.setCell ⟨X, 1, none⟩ (.slice none 0 0)) (.slice A5 rl K5) Rr) := Lib.hid (by have := ReadPts.own (Rf.own_set (i := 1) (u := .slice none 0 0) HPS.out.rest); rw [HE5.out, hrl] at this; exact this)
        clear hrl
        have HOV := Lib.hid (Rf.own_set (i := 1) (u := .slice none 0 0) HPS.out.out)
        have HLL : Hid ((O ++ Mm).length + Rr.length ≤ 1073741824) := Lib.hid (by
          have h1 := congrArg List.length HPS.out.pi.dec
          have h2 : (decN D (T ++ U)).length = (flat D (T ++ U)).length := (by unfold decN; exact ordR_length _ _)
          have h3 := HF.out
          rw [← HTU.out, List.append_nil] at h3
          rw [List.length_append] at h1
          omega)
        go_wp2_with (first
          | (go_at_call 30; (with_reducible refine (end_stream w4 HSE.out).mono ?_); rintro e w6 ⟨rfl, hst6, rfl⟩; clear hst6)
          | (at_builtin; refine wpList_append_read rfl _ _ rfl (X + 1) v4 _ _ _ rfl HOV.out rfl HRE.out HLL.out (by rw [World.size_setCell]; exact HPS.out.lt) ?_; intro v7 w7 ho7 hm7; rw [HPS.out.pi.done, ← List.append_nil (T ++ U), HTU.out] at ho7; have HO7 := Lib.hid ho7; have HB7 : Hid (Below w1.heap.size w1 w7) := Lib.hid (by have h1 := HPS.out.below; have h2 := below_set (n₀ := X) (X := X) (W := w4) (.slice none 0 0) (Nat.le_refl _); have h3 := hm7.below (n₀ := X) (by rw [World.size_setCell]; have := HPS.out.lt; omega) (fun g hg => by have := (own_at HOV.out g hg).1; omega); rw [HX.out]; exact (h1.trans h2).trans h3); clear ho7 hm7)
          | (go_at_call 18; (with_reducible refine (D1.out _ _ HB7.out (R1.out.on HB7.out)).mono ?_); rintro e w8 ⟨A8, K8, rfl, R8, hb8⟩; have R9 := Lib.hid ((ReadPts.own HO7.out).on hb8); have HB8 := Lib.hid (bl_then HB7.out hb8); clear hb8)
          | (go_at_call 22; with_reducible refine (same_true _ _ (decN D l) _ R9.out R8).mono ?_; rintro e w9 ⟨rfl, hb⟩; have HB9 := Lib.hid (bl_then HB8.out hb); clear hb)
          | (go_at_call 16; (with_reducible refine (HW.out _ (bl_then HBW.out HB9.out)).mono ?_); rintro e w10 ⟨rfl, hb⟩; have HB10 := Lib.hid (bl_then HB9.out hb); clear hb))
      all_goals
        go_ret
        exact ⟨rfl, bl_then HBW.out HB10.out⟩
theorem pieces_calls (f : ByteArray) (lv : Value) (l : List Int) (qv : Value) (q : List Int) {m0 : Int} {ev : Value} (w : World) (hv : Vars w.heap.size w m0 ev) (hl : ReadNum .i32 w lv l) (hq : ReadNum .i64 w qv q) (hqb : ∀ x ∈ q, (Lit.int .i64 x).wf = true) (hs : f.size + l.length + q.length ≤ 1048576) :
    Calls Tryz.prog 7 #[.string f, lv, qv] w fun e w' => e = .returned (.bool true) ∧ Below w.heap.size w w' := by
  cases hp : parse f.data.toList with
  | error x => exact pieces_bad f lv qv w hv (by omega) hp
  | ok D => exact pieces_good f lv l qv q w hv hl hq (fun x hx => by
      have := hqb x hx
      simp only [Lit.wf, Bool.and_eq_true, decide_eq_true_eq] at this
      exact this) hs hp
end Go.Proofs.YtikpkjpnehkbfaaGreatDoor.Nw
