/- The law NormalBytes: the walk. -/
import Derived.Test.YtikpkjpnehkbfaaGreatDoorNormWork
import Derived.Test.YtikpkjpnehkbfaaGreatDoorNormJoin
namespace Go.Proofs.YtikpkjpnehkbfaaGreatDoor.Nw
open Go Go.RowKit Go.Shelf Go.Proofs.YtikpkjpnehkbfaaGreatDoor.Sp Go.Proofs.YtikpkjpnehkbfaaGreatDoor.Pr Go.Proofs.YtikpkjpnehkbfaaGreatDoor.Rf Go.Proofs.YtikpkjpnehkbfaaGreatDoor.Nm Go.Proofs.YtikpkjpnehkbfaaGreatDoor.Sb
set_option linter.unusedSimpArgs false
set_option linter.unusedVariables false

set_option maxHeartbeats 2000000 in
theorem bytes_bad (f s : ByteArray) {m0 : Int} {ev : Value} (w : World) (hv : Vars w.heap.size w m0 ev) (hs : f.size ≤ 1048576) {x : Int × Option Int} (h : parse f.data.toList = .error x) :
    Calls Tryz.prog 9 #[.string f, .string s] w fun e w' => e = .returned (.bool true) ∧ Below w.heap.size w w' := by
  have RD := Lib.hid (parse_err hs hv h)
  have HW := Lib.hid (worksAt hv)
  clear h hv
  go_enter Tryz.func9, Tryz.ntmps9
  go_wp2_with (first
    | (go_at_call 31; refine RD.out.mono ?_; rintro e w1 ⟨⟨te, pv, rfl⟩, hb⟩)
    | (go_at_call 16; (with_reducible refine (HW.out _ hb).mono ?_); rintro e w2 ⟨rfl, hb2⟩))
  go_ret
  exact ⟨rfl, bl_then hb hb2⟩
abbrev IsAt (w : World) (p : Nat) (s : ByteArray) (c : Bool) (b : Bool) : Prop := ∀ W, Below w.heap.size w W → Calls Tryz.prog 36 #[.pointer (some ⟨p, 0, none⟩), .string s, .bool c] W fun e W' => e = .returned (.bool b) ∧ Below W.heap.size W W'
theorem isAt {w : World} {p : Nat} {s : ByteArray} {c : Bool} (h : TextAt w p s c s) : IsAt w p s c true := fun W hb => (is_calls h hb).mono fun e w' h' => by simpa using h'
abbrev IllAt (l r : List Int) : Prop := ∀ W v, ReadPts W v l → Calls Tryz.prog 38 #[v] W (RowBack r W)
theorem illAt {l r : List Int} (h : l.filter illP = r) (hl : l.length ≤ 1073741824) : IllAt l r := fun W v hr => by rw [← h]; exact ill_calls hr hl
/-- A decomposed, and a composed text, read again. -/
theorem again {D : PD} (hg : Nm.Good D) (s : Bytes) : ptsOf (normT D s false) = decN D (ptsOf s) ∧ ptsOf (normT D s true) = compN D (ptsOf s) := ⟨dec_read hg s, comp_read hg s⟩
theorem again_size {D : PD} (hg : Nm.Good D) (s : Bytes) (c : Bool) (hs : s.length ≤ 2097152) : (normT D s c).length ≤ 1073741824 := by
  have h1 : (ptsOf s).length ≤ s.length := ptsL_len s
  have h2 := (dec_length hg (ptsOf s)).2
  have h3 := comp_length D (ptsOf s)
  unfold normT
  cases c
  · have := (text_length (decN D (ptsOf s))).2
    simp only [Bool.false_eq_true, if_false]
    omega
  · have := (text_length (compN D (ptsOf s))).2
    simp only [if_true]
    omega
set_option maxHeartbeats 8000000 in
set_option maxRecDepth 100000 in
theorem bytes_good (f s : ByteArray) {m0 : Int} {ev : Value} (w : World) (hv : Vars w.heap.size w m0 ev) (hs : f.size + s.size ≤ 1048576) {D : PD} (h : parse f.data.toList = .ok D) :
    Calls Tryz.prog 9 #[.string f, .string s] w fun e w' => e = .returned (.bool true) ∧ Below w.heap.size w w' := by
  have hg := good_of h
  have PG := Lib.hid (parse_good (s := f) (by omega) hv h)
  have HW := Lib.hid (worksAt hv)
  have HG := Lib.hid hg
  obtain ⟨l, hl⟩ : ∃ l, ptsOf s.data.toList = l := ⟨_, rfl⟩
  obtain ⟨dT, hdT⟩ : ∃ t : ByteArray, (⟨(normT D s.data.toList false).toArray⟩ : ByteArray) = t := ⟨_, rfl⟩
  obtain ⟨cT, hcT⟩ : ∃ t : ByteArray, (⟨(normT D s.data.toList true).toArray⟩ : ByteArray) = t := ⟨_, rfl⟩
  have hdl : dT.data.toList = normT D s.data.toList false := by rw [← hdT]
  have hcl : cT.data.toList = normT D s.data.toList true := by rw [← hcT]
  have hpd : ptsOf dT.data.toList = decN D l := by rw [hdl, ← hl]; exact (again hg _).1
  have hpc : ptsOf cT.data.toList = compN D l := by rw [hcl, ← hl]; exact (again hg _).2
  have hsl : s.data.toList.length ≤ 2097152 := by rw [← Lib.size_eq]; omega
  have hdz : dT.size ≤ 1073741824 := by rw [Lib.size_eq, hdl]; exact again_size hg _ _ hsl
  have hcz : cT.size ≤ 1073741824 := by rw [Lib.size_eq, hcl]; exact again_size hg _ _ hsl
  have hF : (flat D l).length ≤ 16777216 := by rw [← hl]; exact pts_flat hg s (by omega)
  have hFd : (flat D (decN D l)).length ≤ 16777216 := by rw [flat_dec_len hg]; exact hF
  have hFc : (flat D (compN D l)).length ≤ 16777216 := by rw [flat_comp_len hg]; exact hF
  have hok : ∀ x ∈ l, okP x := by rw [← hl]; exact pts_ok _ _ (Nat.le_refl _)
  have hll : l.length ≤ 1073741824 := by rw [← hl]; exact Nat.le_trans (ptsL_len _) (Nat.le_trans hsl (by decide))
  -- the texts
  have tx : ∀ (t : ByteArray) (c : Bool) (r : List Int), ptsOf t.data.toList = r → (⟨(normT D t.data.toList c).toArray⟩ : ByteArray) = ⟨(textOf (if c then compN D r else decN D r)).toArray⟩ := fun t c r e => by unfold normT; rw [e]
  have hd0 : dT = ⟨(textOf (decN D l)).toArray⟩ := by rw [← hdT, tx s false l hl]; rfl
  have hc0 : cT = ⟨(textOf (compN D l)).toArray⟩ := by rw [← hcT, tx s true l hl]; rfl
  have e1 : (⟨(normT D dT.data.toList false).toArray⟩ : ByteArray) = dT := by rw [tx dT false _ hpd, hd0]; simp only [Bool.false_eq_true, if_false]; rw [dec_dec hg]
  have e2 : (⟨(normT D cT.data.toList true).toArray⟩ : ByteArray) = cT := by rw [tx cT true _ hpc, hc0]; simp only [if_true]; rw [comp_comp hg]
  have e3 : (⟨(normT D cT.data.toList false).toArray⟩ : ByteArray) = dT := by rw [tx cT false _ hpc, hd0]; simp only [Bool.false_eq_true, if_false]; rw [dec_comp hg]
  have e4 : (⟨(normT D dT.data.toList true).toArray⟩ : ByteArray) = cT := by rw [tx dT true _ hpd, hc0]; simp only [if_true]; rw [comp_dec hg]
  have O0 := Lib.hid (ofAt (s := s) (by omega) hl)
  have OD := Lib.hid (ofAt hdz hpd)
  have OC := Lib.hid (ofAt hcz hpc)
  have I0 := Lib.hid (illAt (l := l) (r := l.filter illP) rfl hll)
  have ID := Lib.hid (illAt (l := decN D l) (r := l.filter illP) (ill_dec hg hok) (Nat.le_trans (dec_length hg l).2 (by rw [← hl]; have := ptsL_len s.data.toList; omega)))
  have IC := Lib.hid (illAt (l := compN D l) (r := l.filter illP) (ill_comp hg hok) (Nat.le_trans (comp_length D l) (Nat.le_trans (dec_length hg l).2 (by rw [← hl]; have := ptsL_len s.data.toList; omega))))
  have HT := Lib.hid (fun (w1 : World) (p : Nat) (H : PropsAt w1.heap.size w1 p D) => (⟨textAt H hg hdT (by omega) (by rw [hl]; exact hF), textAt H hg hcT (by omega) (by rw [hl]; exact hF), textAt H hg e1 hdz (by rw [hpd]; exact hFd), textAt H hg e2 hcz (by rw [hpc]; exact hFc), textAt H hg e3 hcz (by rw [hpc]; exact hFc), textAt H hg e4 hdz (by rw [hpd]; exact hFd), decAt H hg rfl hF, comAt H hg rfl hF⟩ : TextAt w1 p s false dT ∧ TextAt w1 p s true cT ∧ TextAt w1 p dT false dT ∧ TextAt w1 p cT true cT ∧ TextAt w1 p cT false dT ∧ TextAt w1 p dT true cT ∧ DecAt w1 p l (decN D l) ∧ ComAt w1 p l (compN D l)))
  clear e1 e2 e3 e4 hd0 hc0 tx hll hok hFc hFd hF hcz hdz hsl hpc hpd hcl hdl hcT hdT hl hg h hv
  generalize compN D l = cl at *
  generalize decN D l = dl at *
  generalize l.filter illP = il at *
  go_enter Tryz.func9, Tryz.ntmps9
  go_wp2_with (first
    | (go_at_call 31; refine PG.out.mono ?_; rintro e w1 ⟨p, rfl, H1, hb⟩; have HBW := Lib.hid hb; have HT1 := Lib.hid (HT.out w1 p H1); clear H1 hb HT)
    | (go_at_call 37; (with_reducible refine (O0.out _).mono ?_); rintro e w2 ⟨A2, K2, rfl, R2, hb⟩; have HR2 := Lib.hid R2; have HB2 := Lib.hid hb; clear hb R2 O0))
  obtain ⟨t1, t2, t3, t4, t5, t6, t7, t8⟩ := HT1.out
  have T1 := Lib.hid t1
  have T2 := Lib.hid t2
  have T3 := Lib.hid t3
  have T4 := Lib.hid t4
  have T5 := Lib.hid t5
  have T6 := Lib.hid t6
  have T7 := Lib.hid t7
  have T8 := Lib.hid t8
  have S3 := Lib.hid (isAt t3)
  have S4 := Lib.hid (isAt t4)
  clear HT1 t1 t2 t3 t4 t5 t6 t7 t8
  have HB := Below.refl w2.heap.size w2
  go_wp2_with (first
    | (go_at_call 35; (with_reducible refine (T1.out _ (bl_then HB2.out HB)).mono ?_); rintro e w3 ⟨rfl, hb⟩; replace HB := bl_then HB hb; clear hb)
    | (go_at_call 35; (with_reducible refine (T2.out _ (bl_then HB2.out HB)).mono ?_); rintro e w3 ⟨rfl, hb⟩; replace HB := bl_then HB hb; clear hb)
    | (go_at_call 35; (with_reducible refine (T3.out _ (bl_then HB2.out HB)).mono ?_); rintro e w3 ⟨rfl, hb⟩; replace HB := bl_then HB hb; clear hb)
    | (go_at_call 35; (with_reducible refine (T4.out _ (bl_then HB2.out HB)).mono ?_); rintro e w3 ⟨rfl, hb⟩; replace HB := bl_then HB hb; clear hb)
    | (go_at_call 35; (with_reducible refine (T5.out _ (bl_then HB2.out HB)).mono ?_); rintro e w3 ⟨rfl, hb⟩; replace HB := bl_then HB hb; clear hb)
    | (go_at_call 35; (with_reducible refine (T6.out _ (bl_then HB2.out HB)).mono ?_); rintro e w3 ⟨rfl, hb⟩; replace HB := bl_then HB hb; clear hb)
    | (go_at_call 36; (with_reducible refine (S3.out _ (bl_then HB2.out HB)).mono ?_); rintro e w3 ⟨rfl, hb⟩; replace HB := bl_then HB hb; clear hb)
    | (go_at_call 36; (with_reducible refine (S4.out _ (bl_then HB2.out HB)).mono ?_); rintro e w3 ⟨rfl, hb⟩; replace HB := bl_then HB hb; clear hb)
    | (go_at_call 37; (with_reducible refine (OD.out _).mono ?_); rintro e w4 ⟨A3, K3, rfl, R3, hb⟩; replace HB := bl_then HB hb; clear hb)
    | (go_at_call 37; (with_reducible refine (OC.out _).mono ?_); rintro e w4 ⟨A3, K3, rfl, R3, hb⟩; replace HB := bl_then HB hb; clear hb)
    | (go_at_call 18; (refine (T7.out _ _ (bl_then HB2.out HB) (HR2.out.on HB)).mono ?_); rintro e w5 ⟨A4, K4, rfl, R4, hb⟩; replace R3 := R3.on hb; replace HB := bl_then HB hb; clear hb)
    | (go_at_call 19; (refine (T8.out _ _ (bl_then HB2.out HB) (HR2.out.on HB)).mono ?_); rintro e w5 ⟨A4, K4, rfl, R4, hb⟩; replace R3 := R3.on hb; replace HB := bl_then HB hb; clear hb)
    | (go_at_call 38; (refine (ID.out _ _ R3).mono ?_); rintro e w6 ⟨A5, K5, rfl, R5, hb⟩; replace HB := bl_then HB hb; clear hb R3)
    | (go_at_call 38; (refine (IC.out _ _ R3).mono ?_); rintro e w6 ⟨A5, K5, rfl, R5, hb⟩; replace HB := bl_then HB hb; clear hb R3)
    | (go_at_call 38; (refine (I0.out _ _ (HR2.out.on HB)).mono ?_); rintro e w7 ⟨A6, K6, rfl, R6, hb⟩; replace R5 := R5.on hb; replace HB := bl_then HB hb; clear hb)
    | (go_at_call 22; refine (same_true _ _ dl _ R3 R4).mono ?_; rintro e w8 ⟨rfl, hb⟩; replace HB := bl_then HB hb; clear hb R3 R4)
    | (go_at_call 22; refine (same_true _ _ cl _ R3 R4).mono ?_; rintro e w8 ⟨rfl, hb⟩; replace HB := bl_then HB hb; clear hb R3 R4)
    | (go_at_call 22; refine (same_true _ _ il _ R5 R6).mono ?_; rintro e w8 ⟨rfl, hb⟩; replace HB := bl_then HB hb; clear hb R5 R6)
    | (go_at_call 16; (with_reducible refine (HW.out _ (bl_then HBW.out (bl_then HB2.out HB))).mono ?_); rintro e w9 ⟨rfl, hb⟩; replace HB := bl_then HB hb; clear hb))
  go_ret
  exact ⟨rfl, bl_then HBW.out (bl_then HB2.out HB)⟩
theorem bytes_calls (f s : ByteArray) {m0 : Int} {ev : Value} (w : World) (hv : Vars w.heap.size w m0 ev) (hs : f.size + s.size ≤ 1048576) :
    Calls Tryz.prog 9 #[.string f, .string s] w fun e w' => e = .returned (.bool true) ∧ Below w.heap.size w w' := by
  cases hp : parse f.data.toList with
  | error x => exact bytes_bad f s w hv (by omega) hp
  | ok D => exact bytes_good f s w hv hs hp
end Go.Proofs.YtikpkjpnehkbfaaGreatDoor.Nw
