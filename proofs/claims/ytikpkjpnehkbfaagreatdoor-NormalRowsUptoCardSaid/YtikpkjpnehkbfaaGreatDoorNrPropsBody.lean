/- One line of a file: the walk through the round of Parse. -/
import Derived.Test.YtikpkjpnehkbfaaGreatDoorNrBWords
import Derived.BigRegion
import Derived.BigRegionIn
set_option linter.unusedSimpArgs false
namespace Go.Proofs.YtikpkjpnehkbfaaGreatDoor.Pr
open Go Go.RowKit Go.Shelf Go.Proofs.YtikpkjpnehkbfaaGreatDoor.Sp Go.Proofs.YtikpkjpnehkbfaaGreatDoor.Mapl Go.Proofs.YtikpkjpnehkbfaaGreatDoor.Rowl Go.Proofs.YtikpkjpnehkbfaaGreatDoor.Rz
attribute [local go_sem] Oper.semAt_some
def rangeBody : Code → Option Code
  | .seq a b => (match rangeBody a with | some c => some c | none => rangeBody b)
  | .cond _ a b => (match rangeBody a with | some c => some c | none => rangeBody b)
  | .block _ c => rangeBody c
  | .loop c => rangeBody c
  | .scope c => rangeBody c
  | .rangeFunc _ _ _ c => some c
  | _ => none
theorem doLine_count {st st' : St} {w : List Bytes} {k : Int} (h : doLine st w k = .ok st') : st'.d.classes.length ≤ st.d.classes.length + 1 ∧ st'.d.kinds.length ≤ st.d.kinds.length + 1 ∧ st'.lines.length ≤ st.lines.length + 1 := by
  unfold doLine at h
  split at h
  · injection h with h; subst h; omega
  · split at h
    · unfold doClass at h
      split at h
      · cases h
      · split at h
        · cases h
        · injection h with h; subst h; simp
    · split at h
      · unfold doKind at h
        split at h
        · cases h
        · split at h
          · cases h
          · injection h with h; subst h; simp
      · split at h
        · unfold doFold at h
          split at h
          · cases h
          · cases h
          · split at h
            · cases h
            · injection h with h; subst h; simp
        · split at h
          · unfold doDecomp at h
            split at h
            · cases h
            · cases h
            · split at h
              · cases h
              · split at h
                · cases h
                · injection h with h; subst h; simp
          · cases h
theorem doLines_count : ∀ (ls : List Bytes) (st st' : St) (k : Int), doLines st ls k = .ok st' → st'.d.classes.length ≤ st.d.classes.length + ls.length ∧ st'.d.kinds.length ≤ st.d.kinds.length + ls.length ∧ st'.lines.length ≤ st.lines.length + ls.length
  | [], st, st', k, h => by
    simp only [doLines, Except.ok.injEq] at h
    subst h
    simp
  | l :: ls, st, st', k, h => by
    simp only [doLines] at h
    cases hd : doLine st (wordsOf l) k with
    | error e => rw [hd] at h; cases h
    | ok st1 =>
      rw [hd] at h
      have h1 := doLine_count hd
      have h2 := doLines_count ls st1 st' (k + 1) h
      simp only [List.length_cons]
      omega
theorem assert_errno (k : Int) (W : World) : (Instr.typeAssert (.iface 87 (.int .i64 k)) 43 87 true).run Tryz.prog W = .ok (.tuple #[.int .i64 k, .bool true]) W := by kernel_rfl
theorem wpIn_one {c : Code} {F : Fence} {n : Nat} {P : Program} {Q : Exit → Act → World → Prop} {a : Act} {w : World} (A : Act) (w' : World) (h : c.wpIn F n P (fun e a' w'' => e = .normal ∧ a' = A ∧ w'' = w') a w) (hQ : Q .normal A w') : c.wpIn F n P Q a w :=
  wpIn_mono h (by rintro _ _ _ ⟨rfl, rfl, rfl⟩; exact hQ)
set_option maxRecDepth 100000 in
set_option maxHeartbeats 16000000 in
theorem parse_body (E : Nums) (ok : E.Ok) (n : Nat) (hn : 3 ≤ n) (l : Nat) {m : Int} {ev : Value} (w : World) (hv : Vars E.N w m ev) (hN : w.heap.size = E.N) (pre : List ByteArray) (x : ByteArray) (W : World) (hI : LoopI E w pre W) (hlen : pre.length ≤ 1048576) (hx1 : x.size ≤ 1048576) (body : Code) (hb : Tryz.f31.body.bind rangeBody = some body)
    (u0 u1 u4 u8 u9 u10 u11 u12 u13 u14 u15 u16 u17 u18 u19 u20 u21 u22 u23 u24 u25 u26 u27 u28 u29 u30 u31 u32 u33 u34 u35 u36 u37 u38 u39 u40 u41 u42 u43 u44 u45 u46 u47 u48 u49 u50 u51 u52 u53 u54 u55 u56 u57 u58 u59 u60 u61 u62 u63 u64 u65 u66 u67 u68 u69 u70 u71 u72 u73 u74 u75 u76 u77 u78 u79 u80 u81 u82 u83 u84 u85 u86 u87 u88 u89 u90 u91 u92 u93 u94 u95 u96 u97 u98 u99 u100 u101 u102 u103 u104 u105 u106 u107 u108 u109 u110 u111 u112 : Value) :
    body.wpIn (Fence.wide.inRound l) (n - 1 - 1) Tryz.prog (ZPost E.M (Keep3 E.zs E.zp E.zv) (LoopI E w) (LoopX E w) (pre ++ [x]) W) { tmps := #[u0, u1, .pointer (some ⟨E.z0, 0, none⟩), .pointer (some ⟨E.z1, 0, none⟩), u4, .pointer (some ⟨E.zr, 0, none⟩), .pointer (some ⟨E.zm, 0, none⟩), .string x, u8, u9, u10, u11, u12, u13, u14, u15, u16, u17, u18, u19, u20, u21, u22, u23, u24, u25, u26, u27, u28, u29, u30, u31, u32, u33, u34, u35, u36, u37, u38, u39, u40, u41, u42, u43, u44, u45, u46, u47, u48, u49, u50, u51, u52, u53, u54, u55, u56, u57, u58, u59, u60, u61, u62, u63, u64, u65, u66, u67, u68, u69, u70, u71, u72, u73, u74, u75, u76, u77, u78, u79, u80, u81, u82, u83, u84, u85, u86, u87, u88, u89, u90, u91, u92, u93, u94, u95, u96, u97, u98, u99, u100, u101, u102, u103, u104, u105, u106, u107, u108, u109, u110, u111, u112], defers := [] } W := by
  simp only [Tryz.f31, Option.bind, rangeBody, Option.some.injEq] at hb
  subst hb
  obtain ⟨st, cv, kv, i1, j2, i3, i4, i5, i6, i7⟩ := hI
  have h2 : 1 ≤ n - 1 - 1 := by omega
  have cR := i5.r.cell
  obtain ⟨ln, hln⟩ : ∃ ln : Int, (pre.length : Int) = ln := ⟨_, rfl⟩
  have hln0 : 0 ≤ ln := by omega
  have hln1 : ln ≤ 1048576 := by omega
  have cX : W.cell? ⟨E.B.x, 2, none⟩ = some (.int .i64 ln) := by rw [cell_of_row W _ 2 _ _ (0, 0) j2.hx, ← hln]; rfl
  have fX : W.frozen? ⟨E.B.x, 2, none⟩ = false := by simp [World.frozen?, j2.hx]
  have j3 := j2.line_put (ln + 1)
  have hNs : E.N ≤ W.heap.size := by have := i6.size; omega
  obtain ⟨W1, hW1⟩ : ∃ W1, W.setCell ⟨E.B.x, 2, none⟩ (.int .i64 (ln + 1)) = W1 := ⟨_, rfl⟩
  rw [hW1] at j3
  have hTR := Lib.hid (trimCr hx1)
  have hHA := Lib.hid (hashAt hx1)
  have hB1 : Below E.N w W1 := by rw [← hW1]; exact Below.setCell (p := ⟨E.B.x, 2, none⟩) i6 j2.base.1 _
  have hmx := (hv.below hB1).maxLen
  have hWO := Lib.hid (words_calls (lineB x) (Nat.le_trans (lineB_size x) hx1))
  obtain ⟨ws, hws⟩ : ∃ ws, Lib.goFieldsP blankR (lineB x) = ws := ⟨_, rfl⟩
  have hwl : wl ws = wordsOf x.data.toList := by rw [← hws]; exact words_line x
  have hwz : ∀ y ∈ ws, 0 < y.size ∧ y.size ≤ 1048576 := fun y hy => by
    rw [← hws] at hy
    have := word_size hy
    have := lineB_size x
    omega
  rw [hws] at hWO
  have hcnt := doLines_count _ _ _ _ i1
  rw [wl_length] at hcnt
  have hm1 : st.d.classes.length ≤ 1048576 := Nat.le_trans hcnt.1 (by show 0 + _ ≤ _; omega)
  have hm2 : st.d.kinds.length ≤ 1048576 := Nat.le_trans hcnt.2.1 (by show 0 + _ ≤ _; omega)
  have hok := doLines_ok StOk.empty i1
  have hsz1 : E.N ≤ W1.heap.size := by have := hB1.size; omega
  have HN : ∀ w3, Bel E.B E.N W1 w3 → Apace E W w3 := fun w3 hbel => Apace.of ok i5 i3 i4 hNs hW1 hbel
  have HNX : ∀ (W' : World) (st' : St) (cv kv : Value), Apace E W W' → StB E.B cv kv E.N W' st' (ln + 1) → doLine st (wordsOf x.data.toList) (ln + 1) = .ok st' → KeepsFrom E.M W W' ∧ Keep3 E.zs E.zp E.zv W W' ∧ LoopI E w (pre ++ [x]) W'   := fun _ _ _ _ h1 h2 h3 => round_next i1 i6 i7 hln h1 h2 h3
  have HSX : ∀ (W' W2 : World) (k : Int), Apace E W W' → doLine st (wordsOf x.data.toList) (ln + 1) = .error k → (W'.setCell ⟨E.z0, 0, none⟩ (.pointer none)).setCell ⟨E.z1, 0, none⟩ (.iface 111 (.agg #[.int .i64 k, .int .i64 (ln + 1), .int .i64 0])) = W2 → KeepsFrom E.M W W2 ∧ LoopX E w (pre ++ [x]) W2   := fun _ _ _ h1 h2 h3 => round_stop ok i1 i6 i7 hln h1 h2 h3
  have HV1 := hv.below hB1
  replace HN := Lib.hid HN
  replace HNX := Lib.hid HNX
  replace HSX := Lib.hid HSX
  replace HV1 := Lib.hid HV1
  have HWL := Lib.hid hwl
  have HWZ := Lib.hid hwz
  have HJ3 := Lib.hid j3
  have HOK := Lib.hid hok
  have HM := Lib.hid (And.intro hm1 hm2)
  have OK := Lib.hid ok
  clear hws hwl hwz j3 j2 i1 i3 i4 i5 i6 i7 hln hcnt hm1 hm2 hok hv hlen hN hNs ok hB1
  cases ws with
  | nil =>
    gi_wp2_with (first | (refine ⟨trivial, ?_⟩; gi_at_call 70; refine (callsIn_wide.2 (hTR.out _)).mono ?_; rintro e w' ⟨rfl, hw⟩; subst w') | (refine ⟨trivial, ?_⟩; gi_at_call 69; refine (callsIn_wide.2 (hHA.out _ _ hmx)).mono ?_; rintro e w2 ⟨⟨y, z, rfl⟩, hb2⟩) | (refine ⟨trivial, ?_⟩; gi_at_call 71; refine (callsIn_wide.2 (hWO.out _)).mono ?_; rintro e w3 ⟨v, rfl, ⟨b, off, cap, rfl, hw1, hw2, hw3, hw4⟩, hb3⟩))
    have hbe := hb2.trans (hb3.mono hb2.size)
    refine HNX.out _ _ _ _ (HN.out w3 (Bel.of hbe hsz1)) (HJ3.out.later hbe) ?_
    rw [← HWL.out]
    rfl
  | cons s0 rest =>
    have hpos : ((rest.length : Int) + 1 == 0) = false := beq_eq_false_iff_ne.2 (by omega)
    gi_wp2_with (first | (refine ⟨trivial, ?_⟩; gi_at_call 70; refine (callsIn_wide.2 (hTR.out _)).mono ?_; rintro e w' ⟨rfl, hw⟩; subst w') | (refine ⟨trivial, ?_⟩; gi_at_call 69; refine (callsIn_wide.2 (hHA.out _ _ hmx)).mono ?_; rintro e w2 ⟨⟨y, z, rfl⟩, hb2⟩) | (refine ⟨trivial, ?_⟩; gi_at_call 71; refine (callsIn_wide.2 (hWO.out _)).mono ?_; rintro e w3 ⟨v, rfl, ⟨b, off, cap, rfl, hw1, hw2, hw3, hw4⟩, hb3⟩))
    have hbe := hb2.trans (hb3.mono hb2.size)
    have ha := HN.out w3 (Bel.of hbe hsz1)
    have cm := ha.boxes.m.cell
    have c0 : w3.cell? ⟨b, off, none⟩ = some (.string s0) := hw4 0 s0 rfl
    have hst3 := HJ3.out.later hbe
    have hlk := means_look (W := w3) ha.boxes.means s0 w3.drew rfl
    have r1 := ha.boxes.r.cell
    have r2 : w3.cell? ⟨E.B.x, 2, none⟩ = some (.int .i64 (ln + 1)) := by rw [cell_of_row w3 _ 2 _ _ (0, 0) hst3.hx]; rfl
    have r3 := ha.z0.cell
    have r4 := ha.z1.cell
    have f3 := ha.z0.frozen
    have f4 := ha.z1.frozen
    have hta := assert_errno
    have hzz : E.z1 ≠ E.z0 := by have := OK.out.z0; omega
    have hzy : E.z0 ≠ E.z1 := fun e => hzz e.symm
    have y1 : E.zr ≠ E.z0 := by have := OK.out.z0; have := OK.out.b; have := OK.out.zr; omega
    have y2 : E.z0 ≠ E.zr := fun e => y1 e.symm
    have y3 : E.B.x ≠ E.z0 := by have := OK.out.z0; have := OK.out.b; omega
    have y4 : E.z0 ≠ E.B.x := fun e => y3 e.symm
    have HA := Lib.hid ha
    have HS3 := Lib.hid hst3
    have HW4 := Lib.hid hw4
    have HBE := Lib.hid hbe
    clear ha hst3 hw4 hbe
    cases hmf : meanFn s0 with
    | none =>
      have HD : Hid (doLine st (wordsOf x.data.toList) (ln + 1) = .error 12) := Lib.hid (by rw [← HWL.out]; exact line_none hmf st (ln + 1))
      rw [hmf] at hlk
      simp only at hlk
      apply wpIn_one (w' := w3.drew)
      · gi_region
        all_goals exact ⟨rfl, rfl, rfl⟩
      gi_wp2
      apply wpIn_one (w' := (w3.drew.drew.setCell ⟨E.z0, 0, none⟩ (.pointer none)).setCell ⟨E.z1, 0, none⟩ (.iface 111 (.agg #[.int .i64 12, .int .i64 (ln + 1), .int .i64 0])))
      · gi_region
        all_goals exact ⟨rfl, rfl, rfl⟩
      gi_wp2
      have hdd : Below W1.heap.size W1 w3.drew.drew := HBE.out.trans ⟨rfl, rfl, rfl, Nat.le_refl _, fun _ _ => rfl⟩
      exact HSX.out _ _ _ (HN.out _ (Bel.of hdd hsz1)) HD.out rfl
    | some f =>
      obtain ⟨hfs, hcall⟩ := line_calls s0 rest f hmf (.slice (some ⟨b, off, none⟩) (rest.length + 1) cap) (fun y hy => (HWZ.out y hy).2) (fun y hy => (HWZ.out y hy).1) HOK.out w3.drew (HS3.out.later ⟨rfl, rfl, rfl, Nat.le_refl _, fun _ _ => rfl⟩) (Nat.le_trans hsz1 HBE.out.size) HM.out.1 HM.out.2 (HV1.out.below ((HBE.out.mono hsz1).trans ⟨rfl, rfl, rfl, Nat.le_refl _, fun _ _ => rfl⟩)) ⟨b, off, cap, rfl, hw1, hw2, hw3, HW4.out⟩
      rw [HWL.out] at hcall
      have HC := Lib.hid hcall
      have hcf : ∀ (args : Array Value) (W' : World), (callFunc f args).run Tryz.prog W' = .ok (.enter f args) W' := by
        rcases hfs with rfl | rfl | rfl | rfl <;> intro args W' <;> kernel_rfl
      rw [hmf] at hlk
      simp only at hlk
      clear hcall hfs
      apply wpIn_one (w' := w3.drew)
      · gi_region
        all_goals exact ⟨rfl, rfl, rfl⟩
      gi_wp2_with fail
      refine ⟨trivial, ?_⟩
      refine (callsIn_wide.2 HC.out).mono ?_
      rintro e w4 ⟨hm, hbel4⟩
      have hb3d : Below W1.heap.size W1 w3.drew := HBE.out.trans ⟨rfl, rfl, rfl, Nat.le_refl _, fun _ _ => rfl⟩
      have hbel := (Bel.of (B := E.B) hb3d hsz1).trans hbel4
      have ha4 := HN.out w4 hbel
      cases hd : doLine st (wordsOf x.data.toList) (ln + 1) with
      | ok st' =>
        rw [hd] at hm
        obtain ⟨rfl, cv', kv', hst4⟩ := hm
        have HF := Lib.hid (HNX.out _ _ _ _ ha4 hst4 hd)
        clear hst4 ha4 hbel hbel4 hd hb3d
        gi_wp2
        exact HF.out
      | error k =>
        rw [hd] at hm
        have he : e = .returned (.iface 87 (.int .i64 k)) := hm
        subst he
        have hk := hbel.keep E.B.x _ HJ3.out.hx (by have := OK.out.b; omega) (by have := OK.out.b; omega) (by have := OK.out.b; omega) (by have := OK.out.b; omega) (by have := OK.out.b; omega) (fun cs e => by injection e with _ e _; revert e; decide)
        have q1 := ha4.boxes.r.cell
        have q2 : w4.cell? ⟨E.B.x, 2, none⟩ = some (.int .i64 (ln + 1)) := by rw [cell_of_row w4 _ 2 _ _ (0, 0) hk]; rfl
        have q3 := ha4.z0.cell
        have q4 := ha4.z1.cell
        have g3 := ha4.z0.frozen
        have g4 := ha4.z1.frozen
        have hbd : Bel E.B E.N W1 w4.drew := ⟨hbel.below.trans ⟨rfl, rfl, rfl, Nat.le_refl _, fun _ _ => rfl⟩, hbel.keep⟩
        have HF := Lib.hid (HSX.out _ _ _ (HN.out _ hbd) hd rfl)
        clear ha4 hbel hbel4 hd hb3d hk hbd hm
        gi_wp2
        apply wpIn_one (w' := (w4.drew.setCell ⟨E.z0, 0, none⟩ (.pointer none)).setCell ⟨E.z1, 0, none⟩ (.iface 111 (.agg #[.int .i64 k, .int .i64 (ln + 1), .int .i64 0])))
        · gi_region
          all_goals exact ⟨rfl, rfl, rfl⟩
        gi_wp2
        exact HF.out
end Go.Proofs.YtikpkjpnehkbfaaGreatDoor.Pr
