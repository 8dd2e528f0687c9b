/- glossarylaw06.asked: the program's answers and the reference's agree, and the lists that are handed out lie apart. -/
import Derived.Test.YthonikkoafoohaaGreatDoorBook
import Derived.Test.YthonikkoafoohaaGreatDoorBTell
namespace Go.Proofs.YthonikkoafoohaaGreatDoor.Rf
open Go Go.RowKit Go.Shelf Go.Proofs.YthonikkoafoohaaGreatDoor.Sp Go.Proofs.YthonikkoafoohaaGreatDoor.Pr Go.Proofs.YthonikkoafoohaaGreatDoor.Rowl
set_option linter.unusedSimpArgs false
set_option linter.unusedVariables false

theorem own_base {w : World} {base base' : Nat} {e : TypeId} {size : Nat} {v : Value} {n : Nat} {xs : List Value} (h : w.ownsRow base e size v n xs) (hb : base' ≤ base) : w.ownsRow base' e size v n xs :=
  ⟨h.1, h.2.imp id (fun ⟨g, cap, cur, e, hg, r⟩ => ⟨g, cap, cur, e, Nat.le_trans hb hg, r⟩)⟩
/-- A list that was handed out since the book was opened; between which sizes its block lies. -/
structure Fresh (X lo hi : Nat) (W : World) (v : Value) (l : List Int) : Prop where
  own : OwnPts (X + 1) W v l
  at_ : ∀ g, v.ownBlock = some g → lo ≤ g ∧ g < hi
theorem Fresh.of {X : Nat} {W W' : World} {v : Value} {l : List Int} (h : OwnPts W.heap.size W' v l) (hX : X + 1 ≤ W.heap.size) : Fresh X W.heap.size W'.heap.size W' v l := ⟨own_base h hX, fun g hg => World.ownsRow.lt h g hg⟩
theorem Fresh.later {X lo hi : Nat} {W W' : World} {v : Value} {l : List Int} (h : Fresh X lo hi W v l) (hb : Below W.heap.size W W') : Fresh X lo hi W' v l := ⟨Rowl.own_later h.own hb, h.at_⟩
theorem Fresh.frb {X lo hi : Nat} {W W' : World} {v : Value} {l : List Int} (h : Fresh X lo hi W v l) (hb : FrB X W W') : Fresh X lo hi W' v l := ⟨hb.pts _ _ _ h.own, h.at_⟩
abbrev MadeAt (f : Nat) (w : World) (p : Nat) (r : Int) (l : List Int) : Prop := ∀ W : World, Below w.heap.size w W → Calls Tryz.prog f #[.pointer (some ⟨p, 0, none⟩), .int .i32 r] W fun e w' => ∃ A c, e = .returned (.slice A l.length c) ∧ OwnPts W.heap.size w' (.slice A l.length c) l ∧ Below W.heap.size W w'
theorem made_own {W w' : World} {l : List Int} {e : Ending} (h : ∃ v', e = .returned v' ∧ OwnPts W.heap.size w' v' l ∧ Below W.heap.size W w') : ∃ A c, e = .returned (.slice A l.length c) ∧ OwnPts W.heap.size w' (.slice A l.length c) l ∧ Below W.heap.size W w' := by
  obtain ⟨v, rfl, ho, hb⟩ := h
  obtain ⟨A, c, rfl⟩ := Rowl.own_slice ho
  exact ⟨A, c, rfl, ho, hb⟩
theorem qDec {w : World} {p : Nat} {D : PD} (H : PropsAt w.heap.size w p D) (r : Int) : MadeAt 15 w p r (decompOf D r) := fun W hW => (decomp_calls p D r W (H.on hW)).mono fun e w' h => made_own h
theorem qFol {w : World} {p : Nat} {D : PD} (H : PropsAt w.heap.size w p D) (r : Int) : MadeAt 43 w p r (foldOf D r) := fun W hW => (fold_calls p D r W (H.on hW)).mono fun e w' h => made_own h
theorem rDec {w : World} {q : Nat} {st : St} (H : RefAt q w st) {r : Int} (h0 : -2147483648 ≤ r) (h1 : r ≤ 2147483647) : MadeAt 47 w q r (decompOf st.d r) := fun W hW => (rdecomp_calls q st r h0 h1 W (H.on hW)).mono fun e w' h => made_own h
theorem rFol {w : World} {q : Nat} {st : St} (H : RefAt q w st) {r : Int} (h0 : -2147483648 ≤ r) (h1 : r ≤ 2147483647) : MadeAt 48 w q r (foldOf st.d r) := fun W hW => (rfold_calls q st r h0 h1 W (H.on hW)).mono fun e w' h => made_own h
abbrev RCompAt (w : World) (p : Nat) (a b r : Int) (t : Bool) : Prop := ∀ W : World, Below w.heap.size w W → Calls Tryz.prog 12 #[.pointer (some ⟨p, 0, none⟩), .int .i32 a, .int .i32 b] W fun e w' => e = .returned (.tuple #[.int .i32 r, .bool t]) ∧ Below W.heap.size W w'
theorem compose_pair (o : Option Int) : composeV o = pairOut o := by cases o <;> rfl
theorem rcAt {w : World} {q : Nat} {st : St} (H : RefAt q w st) {a b r : Int} {t : Bool} (ha0 : -2147483648 ≤ a) (ha1 : a ≤ 2147483647) (hb0 : -2147483648 ≤ b) (hb1 : b ≤ 2147483647) (h : pairOut (composeOf st.d a b) = .tuple #[.int .i32 r, .bool t]) : RCompAt w q a b r t := fun W hW =>
  (rcompose_calls q st a b ha0 ha1 hb0 hb1 W (H.on hW)).mono fun e w' ⟨h1, h2⟩ => ⟨by rw [h1, compose_pair, h], h2⟩
abbrev RClassAt (f : Nat) (w : World) (q : Nat) (r c : Int) : Prop := ∀ W : World, Below w.heap.size w W → Calls Tryz.prog f #[.pointer (some ⟨q, 0, none⟩), .int .i32 r] W fun e w' => e = .returned (.int .i64 c) ∧ Below W.heap.size W w'
theorem rclAt {w : World} {q : Nat} {st : St} (H : RefAt q w st) {r : Int} (h0 : -2147483648 ≤ r) (h1 : r ≤ 2147483647) : RClassAt 46 w q r (classOf st.d r) := fun W hW => (rclass_calls q st r h0 h1 W (H.on hW)).mono fun e w' ⟨a, b⟩ => ⟨a, by rw [← b]; exact Below.refl _ _⟩
theorem rkiAt {w : World} {q : Nat} {st : St} (H : RefAt q w st) {r : Int} (h0 : -2147483648 ≤ r) (h1 : r ≤ 2147483647) : RClassAt 49 w q r (kindOf st.d r) := fun W hW => (rkind_calls q st r h0 h1 W (H.on hW)).mono fun e w' ⟨a, b⟩ => ⟨a, by rw [← b]; exact Below.refl _ _⟩
theorem pts_addr {W : World} {A : Option Addr} {n c : Nat} {l : List Int} (h : ReadPts W (.slice A n c) l) (hl : 0 < l.length) : ∃ b off, A = some ⟨b, off, none⟩ := by
  obtain ⟨b, off, c', e⟩ := h.pos hl
  simp only [Value.slice.injEq] at e
  exact ⟨b, off, e.1⟩
/-- Between two of the asked points. -/
structure AI (w : World) (i : Nat) (wr : World) (vs : List Value) : Prop where
  book : BookI w.heap.size wr vs
  len : vs.length = 4 * i
  below : Below w.heap.size w wr
  size : w.heap.size + 1 ≤ wr.heap.size
theorem AI.start (w : World) : AI w 0 (w.alloc (.cells (bookCells (.slice none 0 0)) 112)) [] := ⟨BookI.start w, rfl, (Below.refl _ w).alloc (Nat.le_refl _) _, by rw [World.size_alloc]; exact Nat.le_refl _⟩
/-- A list goes into the book. -/
theorem put_book {X lo hi : Nat} {W : World} {vs : List Value} (h : BookI X W vs) (hlen : vs.length ≤ 1048576) {v : Value} {l : List Int} (hf : Fresh X lo hi W v l) (hl : l.length ≤ 1048576) (hlo : ∀ u ∈ vs, ∀ g, u.ownBlock = some g → g < lo) :
    Calls Tryz.prog 50 #[.pointer (some ⟨X, 0, none⟩), v] W fun e w' => e = .returned (.tuple #[]) ∧ BookI X w' (vs ++ [v]) ∧ FrB X W w' :=
  bookRunes_calls X W vs h hlen v l hf.own hl (fun u hu g hg e => by have a := hlo u hu g hg; have b := (hf.at_ g e).1; omega)
theorem BookI.lt {X : Nat} {W : World} {vs : List Value} (h : BookI X W vs) : ∀ u ∈ vs, ∀ g, u.ownBlock = some g → g < W.heap.size := fun u hu g hg => by
  obtain ⟨l, ho, _⟩ := h.1.own u hu
  exact (World.ownsRow.lt ho g hg).2
theorem lt_snoc {vs : List Value} {lo hi X : Nat} {W : World} {v : Value} {l : List Int} (h : ∀ u ∈ vs, ∀ g, u.ownBlock = some g → g < lo) (hf : Fresh X lo hi W v l) (hh : lo ≤ hi) : ∀ u ∈ vs ++ [v], ∀ g, u.ownBlock = some g → g < hi := fun u hu g hg => by
  rcases List.mem_append.1 hu with hu | hu
  · have := h u hu g hg; omega
  · simp only [List.mem_singleton] at hu
    subst hu
    exact (hf.at_ g hg).2
set_option maxHeartbeats 16000000 in
set_option maxRecDepth 100000 in
theorem asked_calls (p q : Nat) (D : PD) (st : St) (hst : st.d = D) (av : Value) (ask : List Int) (w : World) (HP0 : PropsAt w.heap.size w p D) (HR0 : RefAt q w st) (hask : ReadPts w av ask) (hb : ∀ x ∈ ask, -2147483648 ≤ x ∧ x ≤ 2147483647) :
    Calls Tryz.prog 13 #[.pointer (some ⟨p, 0, none⟩), .pointer (some ⟨q, 0, none⟩), av] w fun e w' => e = .returned (.bool true) ∧ Below w.heap.size w w' := by
  have HP := Lib.hid HP0
  have HR := Lib.hid HR0
  have HBD := Lib.hid hb
  have HST := Lib.hid hst
  have hal := hask.len
  unfold maxLen at hal
  obtain ⟨A0, C0, rfl⟩ := hask.slice
  have HA := Lib.hid hask
  clear HP0 HR0 hb hask hst
  go_enter Tryz.func13, Tryz.ntmps13
  go_wp2
  go_loopw [8] (fun vi wr => ∃ (i : Nat) (vs : List Value), vi = .int .i64 i ∧ i ≤ ask.length ∧ i ≤ 300 ∧ Hid (AI w i wr vs)) (fun vi _ => ask.length - (intOf vi).toNat)
  case atStart => exact ⟨0, [], rfl, by omega, by omega, Lib.hid (AI.start w)⟩
  case round =>
    obtain ⟨i, vs, rfl, hi, hi3, HI⟩ := hrel
    rename World => w2
    by_cases hgo : i < ask.length ∧ i < 300
    · obtain ⟨hlt, h300⟩ := hgo
      obtain ⟨b0, o0, c0, e0⟩ := HA.out.pos (by omega)
      obtain ⟨rfl⟩ : A0 = some ⟨b0, o0, none⟩ := by injection e0
      obtain ⟨r, hr⟩ : ∃ r, ask[i]? = some r := ⟨_, List.getElem?_eq_getElem hlt⟩
      obtain ⟨r0, r1⟩ := HBD.out r (List.mem_of_getElem? hr)
      have hcr : w2.cell? ⟨b0, o0 + i, none⟩ = some (.int .i32 r) := (HA.out.on HI.out.below).cell i r hr
      have D1 := Lib.hid (qDec HP.out r)
      have D2 := D1
      have D3 := Lib.hid (qFol HP.out r)
      have D4 := D3
      have D5 := Lib.hid (rDec HR.out r0 r1)
      have D6 := Lib.hid (rFol HR.out r0 r1)
      have E1 := Lib.hid (classAt HP.out (r := r) rfl)
      have E2 := Lib.hid (rclAt HR.out r0 r1)
      have E3 := Lib.hid (kindAt HP.out (r := r) rfl)
      have E4 := Lib.hid (rkiAt HR.out r0 r1)
      rw [HST.out] at D5 D6 E2 E4
      have HDF := decomp_facts HR.out.2.1 r
      rw [HST.out] at HDF
      obtain ⟨dl8, hdb⟩ := HDF
      have HDB := Lib.hid hdb
      have fl8 : (foldOf D r).length ≤ 8 := by
        unfold foldOf
        cases hl : lookD D.folds r with
        | none => simp
        | some ps => exact HR.out.2.1.f8 _ (by rw [HST.out]; exact lookD_in hl)
      obtain ⟨ot, hot⟩ : ∃ ot, ask[(i * 7 + 3) % ask.length]? = some ot := ⟨_, List.getElem?_eq_getElem (Nat.mod_lt _ (by omega))⟩
      obtain ⟨ot0, ot1⟩ := HBD.out ot (List.mem_of_getElem? hot)
      have HOT := Lib.hid hot
      have hm1 : (0 : Int) ≤ ((i : Int) * 7 + 3) % (ask.length : Int) := Int.emod_nonneg _ (by omega)
      have hm2 : ((i : Int) * 7 + 3) % (ask.length : Int) < (ask.length : Int) := Int.emod_lt_of_pos _ (by omega)
      clear hot
      clear hdb hr e0
      obtain ⟨cl, hcl⟩ : ∃ cl, classOf D r = cl := ⟨_, rfl⟩
      obtain ⟨kl, hkl⟩ : ∃ kl, kindOf D r = kl := ⟨_, rfl⟩
      rw [hcl] at E1 E2
      rw [hkl] at E3 E4
      obtain ⟨fl, hfl⟩ : ∃ fl, foldOf D r = fl := ⟨_, rfl⟩
      rw [hfl] at D3 D4 D6 fl8
      obtain ⟨dl, hdl⟩ : ∃ dl, decompOf D r = dl := ⟨_, rfl⟩
      rw [hdl] at D1 D2 D5 dl8 HDB
      clear hcl hkl hfl hdl
      have N1 := Lib.hid True.intro
      have N2 := Lib.hid True.intro
      have N3 := Lib.hid True.intro
      have N4 := Lib.hid True.intro
      have hbx := HI.out.below
      have hsz := HI.out.size
      have HB := Lib.hid HI.out.book
      have LA := Lib.hid HI.out.book.lt
      have hvl : vs.length = 4 * i := HI.out.len
      have hf1 : (0 : Int) ≤ (i : Int) := by omega
      have hf2 : (i : Int) < (ask.length : Int) := by omega
      have hf3 : (i : Int) < 300 := by omega
      clear HI
      by_cases h2 : dl.length = 2
      · obtain ⟨x, y, hxy⟩ : ∃ x y, dl = [x, y] := by
          match dl, h2 with
          | [x, y], _ => exact ⟨x, y, rfl⟩
        have HDL := Lib.hid hxy
        have hd2 : ((dl.length : Int) == 2) = true := by rw [h2]; rfl
        have hl : 0 < dl.length := by omega
        have hl0 : (0 : Int) < (dl.length : Int) := by omega
        have hl1 : (1 : Int) < (dl.length : Int) := by omega
        obtain ⟨x0, x1⟩ := HDB.out x (by rw [hxy]; simp)
        obtain ⟨y0, y1⟩ := HDB.out y (by rw [hxy]; simp)
        obtain ⟨cm, ct, hcm⟩ := pair_lit (composeOf D x y)
        have CM := Lib.hid (compAt HP.out hcm)
        have RC := Lib.hid (rcAt HR.out (a := x) (b := y) (by omega) (by omega) (by omega) (by omega) (by rw [HST.out]; exact hcm))
        clear hcm h2 hxy
        go_wp2_with (first
            | (go_at_call 15; (with_reducible refine (D1.out _ hbx).mono ?_); rintro e wa ⟨Aa, Ca, rfl, oa, hb⟩; clear D1; have HFa := Lib.hid (Fresh.of oa hsz); have hza := hb.size; replace HB := Lib.hid (HB.out.later hb); replace hbx := hbx.trans (hb.mono hbx.size); replace hsz := Nat.le_trans hsz hb.size; clear hb oa)
            | (go_at_call 15; (with_reducible refine (D2.out _ hbx).mono ?_); rintro e wb ⟨Ab, Cb, rfl, ob, hb⟩; clear D2; have HFb := Lib.hid (Fresh.of ob hsz); have hzb := hb.size; replace HFa := Lib.hid (HFa.out.later hb); replace HB := Lib.hid (HB.out.later hb); replace hbx := hbx.trans (hb.mono hbx.size); replace hsz := Nat.le_trans hsz hb.size; clear hb ob)
            | (go_at_call 43; (with_reducible refine (D3.out _ hbx).mono ?_); rintro e wc ⟨Ac, Cc, rfl, oc, hb⟩; clear D3; have HFc := Lib.hid (Fresh.of oc hsz); have hzc := hb.size; replace HFa := Lib.hid (HFa.out.later hb); replace HFb := Lib.hid (HFb.out.later hb); replace HB := Lib.hid (HB.out.later hb); replace hbx := hbx.trans (hb.mono hbx.size); replace hsz := Nat.le_trans hsz hb.size; clear hb oc)
            | (go_at_call 43; (with_reducible refine (D4.out _ hbx).mono ?_); rintro e wd ⟨Ad, Cd, rfl, od, hb⟩; clear D4; have HFd := Lib.hid (Fresh.of od hsz); have hzd := hb.size; replace HFa := Lib.hid (HFa.out.later hb); replace HFb := Lib.hid (HFb.out.later hb); replace HFc := Lib.hid (HFc.out.later hb); replace HB := Lib.hid (HB.out.later hb); replace hbx := hbx.trans (hb.mono hbx.size); replace hsz := Nat.le_trans hsz hb.size; clear hb od)
            | (go_at_call 47; (with_reducible refine (D5.out _ hbx).mono ?_); rintro e wx ⟨Ax, Cx, rfl, ox, hb⟩; clear D5; have HFx := Lib.hid (Fresh.of ox hsz); have hzx := hb.size; replace HFa := Lib.hid (HFa.out.later hb); replace HFb := Lib.hid (HFb.out.later hb); replace HFc := Lib.hid (HFc.out.later hb); replace HFd := Lib.hid (HFd.out.later hb); replace HB := Lib.hid (HB.out.later hb); replace hbx := hbx.trans (hb.mono hbx.size); replace hsz := Nat.le_trans hsz hb.size; clear hb ox)
            | (go_at_call 48; (with_reducible refine (D6.out _ hbx).mono ?_); rintro e wy ⟨Ay, Cy, rfl, oy, hb⟩; clear D6; have HFy := Lib.hid (Fresh.of oy hsz); have hzy := hb.size; replace HFa := Lib.hid (HFa.out.later hb); replace HFb := Lib.hid (HFb.out.later hb); replace HFc := Lib.hid (HFc.out.later hb); replace HFd := Lib.hid (HFd.out.later hb); replace HFx := Lib.hid (HFx.out.later hb); replace HB := Lib.hid (HB.out.later hb); replace hbx := hbx.trans (hb.mono hbx.size); replace hsz := Nat.le_trans hsz hb.size; clear hb oy)
            | (go_at_call 17; (with_reducible refine (E1.out _ hbx).mono ?_); rintro e we1 ⟨rfl, hb⟩; clear E1; have hze1 := hb.size; replace HFa := Lib.hid (HFa.out.later hb); replace HFb := Lib.hid (HFb.out.later hb); replace HFc := Lib.hid (HFc.out.later hb); replace HFd := Lib.hid (HFd.out.later hb); replace HFx := Lib.hid (HFx.out.later hb); replace HFy := Lib.hid (HFy.out.later hb); replace HB := Lib.hid (HB.out.later hb); replace hbx := hbx.trans (hb.mono hbx.size); replace hsz := Nat.le_trans hsz hb.size; clear hb)
            | (go_at_call 46; (with_reducible refine (E2.out _ hbx).mono ?_); rintro e we2 ⟨rfl, hb⟩; clear E2; have hze2 := hb.size; replace HFa := Lib.hid (HFa.out.later hb); replace HFb := Lib.hid (HFb.out.later hb); replace HFc := Lib.hid (HFc.out.later hb); replace HFd := Lib.hid (HFd.out.later hb); replace HFx := Lib.hid (HFx.out.later hb); replace HFy := Lib.hid (HFy.out.later hb); replace HB := Lib.hid (HB.out.later hb); replace hbx := hbx.trans (hb.mono hbx.size); replace hsz := Nat.le_trans hsz hb.size; clear hb)
            | (go_at_call 18; (with_reducible refine (E3.out _ hbx).mono ?_); rintro e we3 ⟨rfl, hb⟩; clear E3; have hze3 := hb.size; replace HFa := Lib.hid (HFa.out.later hb); replace HFb := Lib.hid (HFb.out.later hb); replace HFc := Lib.hid (HFc.out.later hb); replace HFd := Lib.hid (HFd.out.later hb); replace HFx := Lib.hid (HFx.out.later hb); replace HFy := Lib.hid (HFy.out.later hb); replace HB := Lib.hid (HB.out.later hb); replace hbx := hbx.trans (hb.mono hbx.size); replace hsz := Nat.le_trans hsz hb.size; clear hb)
            | (go_at_call 49; (with_reducible refine (E4.out _ hbx).mono ?_); rintro e we4 ⟨rfl, hb⟩; clear E4; have hze4 := hb.size; replace HFa := Lib.hid (HFa.out.later hb); replace HFb := Lib.hid (HFb.out.later hb); replace HFc := Lib.hid (HFc.out.later hb); replace HFd := Lib.hid (HFd.out.later hb); replace HFx := Lib.hid (HFx.out.later hb); replace HFy := Lib.hid (HFy.out.later hb); replace HB := Lib.hid (HB.out.later hb); replace hbx := hbx.trans (hb.mono hbx.size); replace hsz := Nat.le_trans hsz hb.size; clear hb)
            | (go_at_call 16; (with_reducible refine (same_true _ _ dl _ (ReadPts.own HFa.out.own) (ReadPts.own HFx.out.own)).mono ?_); have once := N1; rintro e ws1 ⟨rfl, hb⟩; clear once N1; have hzs1 := hb.size; replace HFa := Lib.hid (HFa.out.later hb); replace HFb := Lib.hid (HFb.out.later hb); replace HFc := Lib.hid (HFc.out.later hb); replace HFd := Lib.hid (HFd.out.later hb); replace HFx := Lib.hid (HFx.out.later hb); replace HFy := Lib.hid (HFy.out.later hb); replace HB := Lib.hid (HB.out.later hb); replace hbx := hbx.trans (hb.mono hbx.size); replace hsz := Nat.le_trans hsz hb.size; clear hb)
            | (go_at_call 16; (with_reducible refine (same_true _ _ dl _ (ReadPts.own HFb.out.own) (ReadPts.own HFx.out.own)).mono ?_); have once := N2; rintro e ws2 ⟨rfl, hb⟩; clear once N2; have hzs2 := hb.size; replace HFa := Lib.hid (HFa.out.later hb); replace HFb := Lib.hid (HFb.out.later hb); replace HFc := Lib.hid (HFc.out.later hb); replace HFd := Lib.hid (HFd.out.later hb); replace HFx := Lib.hid (HFx.out.later hb); replace HFy := Lib.hid (HFy.out.later hb); replace HB := Lib.hid (HB.out.later hb); replace hbx := hbx.trans (hb.mono hbx.size); replace hsz := Nat.le_trans hsz hb.size; clear hb)
            | (go_at_call 16; (with_reducible refine (same_true _ _ fl _ (ReadPts.own HFc.out.own) (ReadPts.own HFy.out.own)).mono ?_); have once := N3; rintro e ws3 ⟨rfl, hb⟩; clear once N3; have hzs3 := hb.size; replace HFa := Lib.hid (HFa.out.later hb); replace HFb := Lib.hid (HFb.out.later hb); replace HFc := Lib.hid (HFc.out.later hb); replace HFd := Lib.hid (HFd.out.later hb); replace HFx := Lib.hid (HFx.out.later hb); replace HFy := Lib.hid (HFy.out.later hb); replace HB := Lib.hid (HB.out.later hb); replace hbx := hbx.trans (hb.mono hbx.size); replace hsz := Nat.le_trans hsz hb.size; clear hb)
            | (go_at_call 16; (with_reducible refine (same_true _ _ fl _ (ReadPts.own HFd.out.own) (ReadPts.own HFy.out.own)).mono ?_); have once := N4; rintro e ws4 ⟨rfl, hb⟩; clear once N4; have hzs4 := hb.size; replace HFa := Lib.hid (HFa.out.later hb); replace HFb := Lib.hid (HFb.out.later hb); replace HFc := Lib.hid (HFc.out.later hb); replace HFd := Lib.hid (HFd.out.later hb); replace HFx := Lib.hid (HFx.out.later hb); replace HFy := Lib.hid (HFy.out.later hb); replace HB := Lib.hid (HB.out.later hb); replace hbx := hbx.trans (hb.mono hbx.size); replace hsz := Nat.le_trans hsz hb.size; clear hb)
            | (go_at_call 50; (with_reducible refine (put_book HB.out (by first | omega | (simp; omega)) HFa.out (by omega) LA.out).mono ?_); rintro e wk1 ⟨rfl, hB, fr⟩; have LA' := Lib.hid (lt_snoc LA.out HFa.out (by omega)); clear LA; have LB := LA'; clear LA'; replace HB := Lib.hid hB; replace HFa := Lib.hid (HFa.out.frb fr); replace HFb := Lib.hid (HFb.out.frb fr); replace HFc := Lib.hid (HFc.out.frb fr); replace HFd := Lib.hid (HFd.out.frb fr); replace HFx := Lib.hid (HFx.out.frb fr); replace HFy := Lib.hid (HFy.out.frb fr); replace hbx := hbx.trans fr.low; replace hsz := Nat.le_trans hsz fr.low.size; clear hB fr)
            | (go_at_call 50; (with_reducible refine (put_book HB.out (by first | omega | (simp; omega)) HFb.out (by omega) LB.out).mono ?_); rintro e wk2 ⟨rfl, hB, fr⟩; have LB' := Lib.hid (lt_snoc LB.out HFb.out (by omega)); clear LB; have LC := LB'; clear LB'; replace HB := Lib.hid hB; replace HFa := Lib.hid (HFa.out.frb fr); replace HFb := Lib.hid (HFb.out.frb fr); replace HFc := Lib.hid (HFc.out.frb fr); replace HFd := Lib.hid (HFd.out.frb fr); replace HFx := Lib.hid (HFx.out.frb fr); replace HFy := Lib.hid (HFy.out.frb fr); replace hbx := hbx.trans fr.low; replace hsz := Nat.le_trans hsz fr.low.size; clear hB fr)
            | (go_at_call 50; (with_reducible refine (put_book HB.out (by first | omega | (simp; omega)) HFc.out (by omega) LC.out).mono ?_); rintro e wk3 ⟨rfl, hB, fr⟩; have LC' := Lib.hid (lt_snoc LC.out HFc.out (by omega)); clear LC; have LD := LC'; clear LC'; replace HB := Lib.hid hB; replace HFa := Lib.hid (HFa.out.frb fr); replace HFb := Lib.hid (HFb.out.frb fr); replace HFc := Lib.hid (HFc.out.frb fr); replace HFd := Lib.hid (HFd.out.frb fr); replace HFx := Lib.hid (HFx.out.frb fr); replace HFy := Lib.hid (HFy.out.frb fr); replace hbx := hbx.trans fr.low; replace hsz := Nat.le_trans hsz fr.low.size; clear hB fr)
            | (go_at_call 50; (with_reducible refine (put_book HB.out (by first | omega | (simp; omega)) HFd.out (by omega) LD.out).mono ?_); rintro e wk4 ⟨rfl, hB, fr⟩; have LD' := Lib.hid (lt_snoc LD.out HFd.out (by omega)); clear LD; have LE := LD'; clear LD'; replace HB := Lib.hid hB; replace HFa := Lib.hid (HFa.out.frb fr); replace HFb := Lib.hid (HFb.out.frb fr); replace HFc := Lib.hid (HFc.out.frb fr); replace HFd := Lib.hid (HFd.out.frb fr); replace HFx := Lib.hid (HFx.out.frb fr); replace HFy := Lib.hid (HFy.out.frb fr); replace hbx := hbx.trans fr.low; replace hsz := Nat.le_trans hsz fr.low.size; have hco : wk4.cell? ⟨b0, o0 + (i * 7 + 3) % ask.length, none⟩ = some (.int .i32 ot) := (HA.out.on hbx).cell _ _ HOT.out; obtain ⟨bx, ox, hAx⟩ := pts_addr (ReadPts.own HFx.out.own) hl; subst hAx; have hx0 := (ReadPts.own HFx.out.own).cell 0 x (by rw [HDL.out]; rfl); have hy0 := (ReadPts.own HFx.out.own).cell 1 y (by rw [HDL.out]; rfl); simp only [Nat.add_zero] at hx0; clear hB fr))
        go_region
        cases ct
        all_goals
          go_wp2_with (first
            | (go_at_call 11; (with_reducible refine (CM.out _ (by first | exact hbx | exact hbx.drew | exact below_drewN hbx _)).mono ?_); rintro e w11 ⟨rfl, hb⟩; clear CM; replace HB := Lib.hid ((HB.out.later (Below.refl _ _).drew).later hb); replace hbx := hbx.drew.trans (hb.mono hbx.size); replace hsz := Nat.le_trans hsz hb.size; clear hb)
            | (go_at_call 12; (with_reducible refine (RC.out _ hbx).mono ?_); rintro e w12 ⟨rfl, hb⟩; clear RC; replace HB := Lib.hid (HB.out.later hb); replace hbx := hbx.trans (hb.mono hbx.size); replace hsz := Nat.le_trans hsz hb.size; clear hb))
          go_roundw
          case rel => exact ⟨i + 1, vs ++ [.slice Aa dl.length Ca] ++ [.slice Ab dl.length Cb] ++ [.slice Ac fl.length Cc] ++ [.slice Ad fl.length Cd], by go_num, by omega, by omega, Lib.hid ⟨HB.out, by simp; omega, hbx, hsz⟩⟩
          case measure => simp [intOf]; omega
      · have hd2 : ((dl.length : Int) == 2) = false := beq_eq_false_iff_ne.2 (by omega)
        obtain ⟨cm, ct, hcm⟩ := pair_lit (composeOf D r ot)
        have CM := Lib.hid (compAt HP.out hcm)
        have RC := Lib.hid (rcAt HR.out r0 r1 ot0 ot1 (by rw [HST.out]; exact hcm))
        clear hcm
        cases ct
        all_goals
          go_wp2_with (first
            | (go_at_call 15; (with_reducible refine (D1.out _ hbx).mono ?_); rintro e wa ⟨Aa, Ca, rfl, oa, hb⟩; clear D1; have HFa := Lib.hid (Fresh.of oa hsz); have hza := hb.size; replace HB := Lib.hid (HB.out.later hb); replace hbx := hbx.trans (hb.mono hbx.size); replace hsz := Nat.le_trans hsz hb.size; clear hb oa)
            | (go_at_call 15; (with_reducible refine (D2.out _ hbx).mono ?_); rintro e wb ⟨Ab, Cb, rfl, ob, hb⟩; clear D2; have HFb := Lib.hid (Fresh.of ob hsz); have hzb := hb.size; replace HFa := Lib.hid (HFa.out.later hb); replace HB := Lib.hid (HB.out.later hb); replace hbx := hbx.trans (hb.mono hbx.size); replace hsz := Nat.le_trans hsz hb.size; clear hb ob)
            | (go_at_call 43; (with_reducible refine (D3.out _ hbx).mono ?_); rintro e wc ⟨Ac, Cc, rfl, oc, hb⟩; clear D3; have HFc := Lib.hid (Fresh.of oc hsz); have hzc := hb.size; replace HFa := Lib.hid (HFa.out.later hb); replace HFb := Lib.hid (HFb.out.later hb); replace HB := Lib.hid (HB.out.later hb); replace hbx := hbx.trans (hb.mono hbx.size); replace hsz := Nat.le_trans hsz hb.size; clear hb oc)
            | (go_at_call 43; (with_reducible refine (D4.out _ hbx).mono ?_); rintro e wd ⟨Ad, Cd, rfl, od, hb⟩; clear D4; have HFd := Lib.hid (Fresh.of od hsz); have hzd := hb.size; replace HFa := Lib.hid (HFa.out.later hb); replace HFb := Lib.hid (HFb.out.later hb); replace HFc := Lib.hid (HFc.out.later hb); replace HB := Lib.hid (HB.out.later hb); replace hbx := hbx.trans (hb.mono hbx.size); replace hsz := Nat.le_trans hsz hb.size; clear hb od)
            | (go_at_call 47; (with_reducible refine (D5.out _ hbx).mono ?_); rintro e wx ⟨Ax, Cx, rfl, ox, hb⟩; clear D5; have HFx := Lib.hid (Fresh.of ox hsz); have hzx := hb.size; replace HFa := Lib.hid (HFa.out.later hb); replace HFb := Lib.hid (HFb.out.later hb); replace HFc := Lib.hid (HFc.out.later hb); replace HFd := Lib.hid (HFd.out.later hb); replace HB := Lib.hid (HB.out.later hb); replace hbx := hbx.trans (hb.mono hbx.size); replace hsz := Nat.le_trans hsz hb.size; clear hb ox)
            | (go_at_call 48; (with_reducible refine (D6.out _ hbx).mono ?_); rintro e wy ⟨Ay, Cy, rfl, oy, hb⟩; clear D6; have HFy := Lib.hid (Fresh.of oy hsz); have hzy := hb.size; replace HFa := Lib.hid (HFa.out.later hb); replace HFb := Lib.hid (HFb.out.later hb); replace HFc := Lib.hid (HFc.out.later hb); replace HFd := Lib.hid (HFd.out.later hb); replace HFx := Lib.hid (HFx.out.later hb); replace HB := Lib.hid (HB.out.later hb); replace hbx := hbx.trans (hb.mono hbx.size); replace hsz := Nat.le_trans hsz hb.size; clear hb oy)
            | (go_at_call 17; (with_reducible refine (E1.out _ hbx).mono ?_); rintro e we1 ⟨rfl, hb⟩; clear E1; have hze1 := hb.size; replace HFa := Lib.hid (HFa.out.later hb); replace HFb := Lib.hid (HFb.out.later hb); replace HFc := Lib.hid (HFc.out.later hb); replace HFd := Lib.hid (HFd.out.later hb); replace HFx := Lib.hid (HFx.out.later hb); replace HFy := Lib.hid (HFy.out.later hb); replace HB := Lib.hid (HB.out.later hb); replace hbx := hbx.trans (hb.mono hbx.size); replace hsz := Nat.le_trans hsz hb.size; clear hb)
            | (go_at_call 46; (with_reducible refine (E2.out _ hbx).mono ?_); rintro e we2 ⟨rfl, hb⟩; clear E2; have hze2 := hb.size; replace HFa := Lib.hid (HFa.out.later hb); replace HFb := Lib.hid (HFb.out.later hb); replace HFc := Lib.hid (HFc.out.later hb); replace HFd := Lib.hid (HFd.out.later hb); replace HFx := Lib.hid (HFx.out.later hb); replace HFy := Lib.hid (HFy.out.later hb); replace HB := Lib.hid (HB.out.later hb); replace hbx := hbx.trans (hb.mono hbx.size); replace hsz := Nat.le_trans hsz hb.size; clear hb)
            | (go_at_call 18; (with_reducible refine (E3.out _ hbx).mono ?_); rintro e we3 ⟨rfl, hb⟩; clear E3; have hze3 := hb.size; replace HFa := Lib.hid (HFa.out.later hb); replace HFb := Lib.hid (HFb.out.later hb); replace HFc := Lib.hid (HFc.out.later hb); replace HFd := Lib.hid (HFd.out.later hb); replace HFx := Lib.hid (HFx.out.later hb); replace HFy := Lib.hid (HFy.out.later hb); replace HB := Lib.hid (HB.out.later hb); replace hbx := hbx.trans (hb.mono hbx.size); replace hsz := Nat.le_trans hsz hb.size; clear hb)
            | (go_at_call 49; (with_reducible refine (E4.out _ hbx).mono ?_); rintro e we4 ⟨rfl, hb⟩; clear E4; have hze4 := hb.size; replace HFa := Lib.hid (HFa.out.later hb); replace HFb := Lib.hid (HFb.out.later hb); replace HFc := Lib.hid (HFc.out.later hb); replace HFd := Lib.hid (HFd.out.later hb); replace HFx := Lib.hid (HFx.out.later hb); replace HFy := Lib.hid (HFy.out.later hb); replace HB := Lib.hid (HB.out.later hb); replace hbx := hbx.trans (hb.mono hbx.size); replace hsz := Nat.le_trans hsz hb.size; clear hb)
            | (go_at_call 16; (with_reducible refine (same_true _ _ dl _ (ReadPts.own HFa.out.own) (ReadPts.own HFx.out.own)).mono ?_); have once := N1; rintro e ws1 ⟨rfl, hb⟩; clear once N1; have hzs1 := hb.size; replace HFa := Lib.hid (HFa.out.later hb); replace HFb := Lib.hid (HFb.out.later hb); replace HFc := Lib.hid (HFc.out.later hb); replace HFd := Lib.hid (HFd.out.later hb); replace HFx := Lib.hid (HFx.out.later hb); replace HFy := Lib.hid (HFy.out.later hb); replace HB := Lib.hid (HB.out.later hb); replace hbx := hbx.trans (hb.mono hbx.size); replace hsz := Nat.le_trans hsz hb.size; clear hb)
            | (go_at_call 16; (with_reducible refine (same_true _ _ dl _ (ReadPts.own HFb.out.own) (ReadPts.own HFx.out.own)).mono ?_); have once := N2; rintro e ws2 ⟨rfl, hb⟩; clear once N2; have hzs2 := hb.size; replace HFa := Lib.hid (HFa.out.later hb); replace HFb := Lib.hid (HFb.out.later hb); replace HFc := Lib.hid (HFc.out.later hb); replace HFd := Lib.hid (HFd.out.later hb); replace HFx := Lib.hid (HFx.out.later hb); replace HFy := Lib.hid (HFy.out.later hb); replace HB := Lib.hid (HB.out.later hb); replace hbx := hbx.trans (hb.mono hbx.size); replace hsz := Nat.le_trans hsz hb.size; clear hb)
            | (go_at_call 16; (with_reducible refine (same_true _ _ fl _ (ReadPts.own HFc.out.own) (ReadPts.own HFy.out.own)).mono ?_); have once := N3; rintro e ws3 ⟨rfl, hb⟩; clear once N3; have hzs3 := hb.size; replace HFa := Lib.hid (HFa.out.later hb); replace HFb := Lib.hid (HFb.out.later hb); replace HFc := Lib.hid (HFc.out.later hb); replace HFd := Lib.hid (HFd.out.later hb); replace HFx := Lib.hid (HFx.out.later hb); replace HFy := Lib.hid (HFy.out.later hb); replace HB := Lib.hid (HB.out.later hb); replace hbx := hbx.trans (hb.mono hbx.size); replace hsz := Nat.le_trans hsz hb.size; clear hb)
            | (go_at_call 16; (with_reducible refine (same_true _ _ fl _ (ReadPts.own HFd.out.own) (ReadPts.own HFy.out.own)).mono ?_); have once := N4; rintro e ws4 ⟨rfl, hb⟩; clear once N4; have hzs4 := hb.size; replace HFa := Lib.hid (HFa.out.later hb); replace HFb := Lib.hid (HFb.out.later hb); replace HFc := Lib.hid (HFc.out.later hb); replace HFd := Lib.hid (HFd.out.later hb); replace HFx := Lib.hid (HFx.out.later hb); replace HFy := Lib.hid (HFy.out.later hb); replace HB := Lib.hid (HB.out.later hb); replace hbx := hbx.trans (hb.mono hbx.size); replace hsz := Nat.le_trans hsz hb.size; clear hb)
            | (go_at_call 50; (with_reducible refine (put_book HB.out (by first | omega | (simp; omega)) HFa.out (by omega) LA.out).mono ?_); rintro e wk1 ⟨rfl, hB, fr⟩; have LA' := Lib.hid (lt_snoc LA.out HFa.out (by omega)); clear LA; have LB := LA'; clear LA'; replace HB := Lib.hid hB; replace HFa := Lib.hid (HFa.out.frb fr); replace HFb := Lib.hid (HFb.out.frb fr); replace HFc := Lib.hid (HFc.out.frb fr); replace HFd := Lib.hid (HFd.out.frb fr); replace HFx := Lib.hid (HFx.out.frb fr); replace HFy := Lib.hid (HFy.out.frb fr); replace hbx := hbx.trans fr.low; replace hsz := Nat.le_trans hsz fr.low.size; clear hB fr)
            | (go_at_call 50; (with_reducible refine (put_book HB.out (by first | omega | (simp; omega)) HFb.out (by omega) LB.out).mono ?_); rintro e wk2 ⟨rfl, hB, fr⟩; have LB' := Lib.hid (lt_snoc LB.out HFb.out (by omega)); clear LB; have LC := LB'; clear LB'; replace HB := Lib.hid hB; replace HFa := Lib.hid (HFa.out.frb fr); replace HFb := Lib.hid (HFb.out.frb fr); replace HFc := Lib.hid (HFc.out.frb fr); replace HFd := Lib.hid (HFd.out.frb fr); replace HFx := Lib.hid (HFx.out.frb fr); replace HFy := Lib.hid (HFy.out.frb fr); replace hbx := hbx.trans fr.low; replace hsz := Nat.le_trans hsz fr.low.size; clear hB fr)
            | (go_at_call 50; (with_reducible refine (put_book HB.out (by first | omega | (simp; omega)) HFc.out (by omega) LC.out).mono ?_); rintro e wk3 ⟨rfl, hB, fr⟩; have LC' := Lib.hid (lt_snoc LC.out HFc.out (by omega)); clear LC; have LD := LC'; clear LC'; replace HB := Lib.hid hB; replace HFa := Lib.hid (HFa.out.frb fr); replace HFb := Lib.hid (HFb.out.frb fr); replace HFc := Lib.hid (HFc.out.frb fr); replace HFd := Lib.hid (HFd.out.frb fr); replace HFx := Lib.hid (HFx.out.frb fr); replace HFy := Lib.hid (HFy.out.frb fr); replace hbx := hbx.trans fr.low; replace hsz := Nat.le_trans hsz fr.low.size; clear hB fr)
            | (go_at_call 50; (with_reducible refine (put_book HB.out (by first | omega | (simp; omega)) HFd.out (by omega) LD.out).mono ?_); rintro e wk4 ⟨rfl, hB, fr⟩; have LD' := Lib.hid (lt_snoc LD.out HFd.out (by omega)); clear LD; have LE := LD'; clear LD'; replace HB := Lib.hid hB; replace HFa := Lib.hid (HFa.out.frb fr); replace HFb := Lib.hid (HFb.out.frb fr); replace HFc := Lib.hid (HFc.out.frb fr); replace HFd := Lib.hid (HFd.out.frb fr); replace HFx := Lib.hid (HFx.out.frb fr); replace HFy := Lib.hid (HFy.out.frb fr); replace hbx := hbx.trans fr.low; replace hsz := Nat.le_trans hsz fr.low.size; have hco : wk4.cell? ⟨b0, o0 + (i * 7 + 3) % ask.length, none⟩ = some (.int .i32 ot) := (HA.out.on hbx).cell _ _ HOT.out; clear hB fr)
            | (go_at_call 11; (with_reducible refine (CM.out _ (by first | exact hbx | exact hbx.drew | exact below_drewN hbx _)).mono ?_); rintro e w11 ⟨rfl, hb⟩; clear CM; replace HB := Lib.hid (HB.out.later hb); replace hbx := hbx.trans (hb.mono hbx.size); replace hsz := Nat.le_trans hsz hb.size; clear hb)
            | (go_at_call 12; (with_reducible refine (RC.out _ hbx).mono ?_); rintro e w12 ⟨rfl, hb⟩; clear RC; replace HB := Lib.hid (HB.out.later hb); replace hbx := hbx.trans (hb.mono hbx.size); replace hsz := Nat.le_trans hsz hb.size; clear hb))
          go_roundw
          case rel => exact ⟨i + 1, vs ++ [.slice Aa dl.length Ca] ++ [.slice Ab dl.length Cb] ++ [.slice Ac fl.length Cc] ++ [.slice Ad fl.length Cd], by go_num, by omega, by omega, Lib.hid ⟨HB.out, by simp; omega, hbx, hsz⟩⟩
          case measure => simp [intOf]; omega
    · have HAP := Lib.hid (bookApart_calls w.heap.size w2 vs HI.out.book (by have := HI.out.len; omega))
      have HBW := Lib.hid HI.out.below
      clear HI
      by_cases hlt : i < ask.length
      · have hf2 : (i : Int) < (ask.length : Int) := by omega
        have hf3 : ¬ (i : Int) < 300 := by omega
        go_wp2_with (go_at_call 51; go_must (refine HAP.out.mono ?_; rintro e w9 ⟨rfl, hb⟩))
        go_ret
        exact ⟨rfl, HBW.out.trans hb⟩
      · have hf2 : ¬ (i : Int) < (ask.length : Int) := by omega
        go_wp2_with (go_at_call 51; go_must (refine HAP.out.mono ?_; rintro e w9 ⟨rfl, hb⟩))
        go_ret
        exact ⟨rfl, HBW.out.trans hb⟩
end Go.Proofs.YthonikkoafoohaaGreatDoor.Rf
