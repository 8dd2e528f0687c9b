/- The reference's Edges, All, Edge (glossaryref09): the walks. -/
import Derived.Test.YtfmcadobpgpajaaGreatDoorRefUnits
import Derived.Test.YtfmcadobpgpajaaGreatDoorRefCells
import Derived.Test.YtfmcadobpgpajaaGreatDoorCellGather
namespace Go.Proofs.YtfmcadobpgpajaaGreatDoor.Ru
open Go Go.RowKit Go.Lib Go.Proofs.YtfmcadobpgpajaaGreatDoor.Ut Go.Proofs.YtfmcadobpgpajaaGreatDoor.Sp Go.Proofs.YtfmcadobpgpajaaGreatDoor.Rf Go.Proofs.YtfmcadobpgpajaaGreatDoor.Pr Go.Proofs.YtfmcadobpgpajaaGreatDoor.Cl
set_option linter.unusedSimpArgs false
set_option linter.unusedVariables false

abbrev ints (l : List Nat) : List Value := l.map fun (x : Nat) => Value.int .i64 (x : Int)
abbrev OwnInts (n₀ : Nat) (W : World) (v : Value) (l : List Nat) : Prop := W.ownsRow n₀ 3 1 v l.length (ints l)
theorem infoInts : (Tryz.prog.info? 3).map (fun i => (i.zero, i.size, i.bytes)) = some (some (.int .i64 0), 1, 8) := by kernel_rfl
theorem wpList_append_int {ops : Array Oper} {rest : List Oper} {o : Oper} {ac : Act} {Q : Exit → Act → World → Prop} {W : World} {a : Nat} {az : Int} (haz : az = (a : Int)) (hgd : o.guard = none) (s x : Operand)
    (ho : o.op = .call { callee := .builtin .append, args := #[s, x], argTypes := #[80, 80] })
    (base : Nat) (v : Value) (L : List Nat) (hs : ac.eval s = v) (hown : OwnInts base W v L) (hx : ac.eval x = .slice (some ⟨W.heap.size, 0, none⟩) 1 1)
    (h63 : L.length ≤ 1048577) (hbase : base ≤ W.heap.size)
    (h : ∀ v' w', OwnInts base w' v' (L ++ [a]) → Below base W w' → (∃ g cap, v' = .slice (some ⟨g, 0, none⟩) (L.length + 1) cap) → wpList Tryz.prog ops Q rest (ac.put o.dst v') w') :
    wpList Tryz.prog ops Q (o :: rest) ac (W.alloc (.cells #[.int .i64 az] 3)) := by
  subst haz
  obtain ⟨ii, hi0, hz0, hz1, hz2⟩ := info_parts infoInts
  refine wpList_append_own_at (W.alloc (.cells #[.int .i64 (a : Int)] 3)) hgd s x 80 ho base 3 ii _ 1 8 Tryz.underlying80 hi0 hz0 hz1 hz2 rfl (by decide) v L.length (ints L) hs (World.ownsRow.alloc hown _) ⟨W.heap.size, 0, none⟩ 1 1 [.int .i64 (a : Int)] hx rfl (cells_laid W [.int .i64 (a : Int)] rfl (by simp [maxLen])) (by simp [Value.oneCell']) (by simp only [maxLen]; omega) (by omega) (by rw [World.size_alloc]; omega) ?_
  intro v' w' ho' hg _ _
  refine h v' w' ?_ (((Below.refl _ W).alloc hbase _).grown hg (by rw [World.size_alloc]; omega) (fun k e => (own_block hown e).1)) ?_
  · rw [OwnInts, ints, List.map_append, List.length_append]; exact ho'
  · exact ownsRow_succ ho'
/-- A row of units that can be read. -/
def ReadUnits (W : World) (v : Value) (l : List UInt8) (us : List Nat) : Prop := (us = [] ∧ ∃ A c, v = .slice A 0 c) ∨ ∃ g c, v = .slice (some ⟨g, 0, none⟩) us.length c ∧ ∀ (i x : Nat), us[i]? = some x → W.cell? ⟨g, i * 3, none⟩ = some (.int .i64 (x : Int)) ∧ W.cell? ⟨g, i * 3 + 1, none⟩ = some (.int .i32 (run l x : Nat)) ∧ W.cell? ⟨g, i * 3 + 2, none⟩ = some (.bool (badB l x))
theorem ReadUnits.own {n₀ : Nat} {W : World} {v : Value} {l : List UInt8} {us : List Nat} (h : OwnUnits n₀ W v l us) : ReadUnits W v l us := by
  unfold ReadUnits
  cases us with
  | nil =>
    left
    rcases h.2 with ⟨rfl, _⟩ | ⟨g, cap, cur, rfl, _⟩
    · exact ⟨rfl, _, _, rfl⟩
    · exact ⟨rfl, _, _, rfl⟩
  | cons y us =>
    right
    obtain ⟨g, cap, rfl⟩ := ownsRow_succ (k := us.length) h
    refine ⟨g, cap, rfl, fun i x hi => ?_⟩
    obtain ⟨k1, k2, k3⟩ := flatU_at l hi
    have a1 := World.ownsRow.cells h (g := g) rfl (i * 3) _ k1
    have a2 := World.ownsRow.cells h (g := g) rfl (i * 3 + 1) _ k2
    have a3 := World.ownsRow.cells h (g := g) rfl (i * 3 + 2) _ k3
    rw [show ((⟨g, 0, none⟩ : Addr).add (i * 3)) = ⟨g, i * 3, none⟩ by (unfold Addr.add; split <;> simp_all)] at a1
    rw [show ((⟨g, 0, none⟩ : Addr).add (i * 3 + 1)) = ⟨g, i * 3 + 1, none⟩ by (unfold Addr.add; split <;> simp_all)] at a2
    rw [show ((⟨g, 0, none⟩ : Addr).add (i * 3 + 2)) = ⟨g, i * 3 + 2, none⟩ by (unfold Addr.add; split <;> simp_all)] at a3
    exact ⟨a1, a2, a3⟩
theorem ReadUnits.on {W W' : World} {v : Value} {l : List UInt8} {us : List Nat} (h : ReadUnits W v l us) (hb : Below W.heap.size W W') : ReadUnits W' v l us := by
  rcases h with h | ⟨g, c, e, hc⟩
  · exact .inl h
  · exact .inr ⟨g, c, e, fun i x hi => ⟨later_cell hb (hc i x hi).1, later_cell hb (hc i x hi).2.1, later_cell hb (hc i x hi).2.2⟩⟩
/-- From one unit to the next: the edges so far. -/
theorem upto_unit {D : PD} {l : List UInt8} {x : Nat} (hb : Bd l x) (hx : x < l.length) : upto D l (x + wid l x) = upto D l x ++ (if edgeB D l (x + wid l x) = true then [x + wid l x] else []) := by
  unfold upto
  exact range_gap _ x _ (by have := wid_pos l x; omega) (gap hb hx)
theorem edge_ref {D : PD} {l : List UInt8} {x : Nat} (hb : Bd l x) (hx : x + wid l x < l.length) : edgeB D l (x + wid l x) = edgeR D (run l x : Nat) (badB l x) (run l (x + wid l x) : Nat) (badB l (x + wid l x)) := by
  have hw := wid_pos l x
  rw [edge_unit (Bd.step hb (by omega)) hx (by omega), jo_units hb hx]
  unfold badB
  rw [edge_join]
theorem run_bound (l : List UInt8) (x : Nat) : (0 : Int) ≤ (run l x : Nat) ∧ ((run l x : Nat) : Int) ≤ 1114111 := by
  have := Lib.decodeL_rune (l.drop x)
  unfold run
  omega
theorem upto_len_le (D : PD) (l : List UInt8) (x : Nat) : (upto D l x).length ≤ x + 1 := by
  unfold upto
  have := List.length_filter_le (edgeB D l) (List.range (x + 1))
  rwa [List.length_range] at this
theorem own_base' {w : World} {base base' : Nat} {e : TypeId} {size : Nat} {v : Value} {n : Nat} {xs : List Value} (h : w.ownsRow base e size v n xs) (hb : base' ≤ base) : w.ownsRow base' e size v n xs :=
  ⟨h.1, h.2.imp id (fun ⟨g, cap, cur, e, hg, r⟩ => ⟨g, cap, cur, e, Nat.le_trans hb hg, r⟩)⟩
def EdgesOut (D : PD) (l : List UInt8) (w : World) (e : Ending) (W' : World) : Prop := ∃ v, e = .returned v ∧ OwnInts w.heap.size W' v (edges D l) ∧ Below w.heap.size w W'
set_option maxHeartbeats 8000000 in
set_option maxRecDepth 100000 in
theorem Edges_calls (q : Nat) (st : St) (s : ByteArray) (hs : s.size ≤ 1048576) (w : World) (H : RefAt q w st) : Calls Tryz.prog 38 #[.pointer (some ⟨q, 0, none⟩), .string s] w fun e w' => EdgesOut st.d s.data.toList w e w' := by
  have HU := Lib.hid (units_calls s hs w)
  have HR := Lib.hid H
  have HS := Lib.hid (Lib.size_eq s)
  clear H
  by_cases h0 : s.data.toList = []
  · have HE : Hid (edges st.d s.data.toList = []) := Lib.hid (by rw [h0]; rfl)
    have HU2 : Hid (Calls Tryz.prog 71 #[.string s] w fun e w' => ∃ A c, e = .returned (.slice A 0 c) ∧ Below w.heap.size w w') := Lib.hid (HU.out.mono (by
      rintro e w' ⟨v, us, rfl, hu, ho, hb⟩
      rw [h0] at hu
      have hl := hu.len
      obtain rfl : us = [] := List.eq_nil_of_length_eq_zero (by simpa using hl)
      rcases ReadUnits.own ho with ⟨_, A, c, rfl⟩ | ⟨g, c, rfl, _⟩
      · exact ⟨A, c, rfl, hb⟩
      · exact ⟨_, c, rfl, hb⟩))
    clear h0 HU
    go_enter Tryz.func38, Tryz.ntmps38
    go_wp2_with (go_at_call 71; (refine HU2.out.mono ?_); rintro e w1 ⟨A, c, rfl, hb⟩)
    go_ret
    exact ⟨_, rfl, by rw [HE.out]; exact ⟨rfl, .inl ⟨rfl, rfl⟩⟩, hb⟩
  · have HU2 : Hid (Calls Tryz.prog 71 #[.string s] w fun e w' => ∃ g c n us, e = .returned (.slice (some ⟨g, 0, none⟩) (n + 1) c) ∧ us.length = n + 1 ∧ n ≤ 1048576 ∧ Upto s.data.toList us s.data.toList.length ∧ ReadUnits w' (.slice (some ⟨g, 0, none⟩) (n + 1) c) s.data.toList us ∧ Below w.heap.size w w') := Lib.hid (HU.out.mono (by
      rintro e w' ⟨v, us, rfl, hu, ho, hb⟩
      have hr := ReadUnits.own ho
      have hul := hu.len
      rw [← HS.out] at hul
      cases us with
      | nil => exact absurd (hu.zero rfl) (by intro e; exact h0 (List.eq_nil_of_length_eq_zero e))
      | cons y us =>
        obtain ⟨g, cap, rfl⟩ := ownsRow_succ (k := us.length) ho
        exact ⟨g, cap, us.length, y :: us, rfl, rfl, by simp at hul; omega, hu, hr, hb⟩))
    have H0 := Lib.hid h0
    have HUC := Lib.hid (fun (xa xb : Nat) (W : World) (hW : RefAt q W st) => edge_calls q st xa (run s.data.toList xa : Nat) (badB s.data.toList xa) xb (run s.data.toList xb : Nat) (badB s.data.toList xb) (run_bound _ _).1 (run_bound _ _).2 (run_bound _ _).1 (run_bound _ _).2 W hW)
    clear h0 HU
    obtain ⟨nb, hnb⟩ : ∃ nb : Bool, nb = false := ⟨_, rfl⟩
    go_enter Tryz.func38, Tryz.ntmps38
    go_wp2_with (go_at_call 71; (refine HU2.out.mono ?_); rintro e w1 ⟨g, c, n, us, rfl, hul, hn, hup, hrd, hb⟩; have HL := Lib.hid hul; have HUP := Lib.hid hup; have HRD := Lib.hid hrd; have HB1 := Lib.hid hb; have hn0 : ((n : Int) + 1 == 0) = false := beq_eq_false_iff_ne.2 (by omega); clear hul hup hrd hb)
    have HCL : Hid (∀ (i x : Nat), us[i]? = some x → w1.cell? ⟨g, i * 3, none⟩ = some (.int .i64 (x : Int)) ∧ w1.cell? ⟨g, i * 3 + 1, none⟩ = some (.int .i32 (run s.data.toList x : Nat)) ∧ w1.cell? ⟨g, i * 3 + 2, none⟩ = some (.bool (badB s.data.toList x))) := Lib.hid (by
      rcases HRD.out with ⟨rfl, _⟩ | ⟨g', c', e, hc⟩
      · have := HL.out; simp at this
      · simp only [Value.slice.injEq, Option.some.injEq, Addr.mk.injEq, and_true] at e
        obtain ⟨rfl, _⟩ := e
        exact hc)
    go_loopw [6, 7] (fun v f wr => ∃ (k x : Nat), f = .int .i64 ((k : Int) + 1) ∧ k ≤ n ∧ Hid (us[k]? = some x) ∧ OwnInts w1.heap.size wr v (upto st.d s.data.toList x) ∧ Below w1.heap.size w1 wr) (fun _ f _ => n + 1 - (intOf f).toNat)
    case atStart =>
      obtain ⟨x, hx⟩ : ∃ x, us[0]? = some x := ⟨_, List.getElem?_eq_getElem (by rw [HL.out]; omega)⟩
      have hx0 := (HUP.out.entry 0 x hx).2.2.1 rfl
      subst hx0
      refine ⟨0, 0, rfl, Nat.zero_le _, Lib.hid hx, ?_, (Below.refl _ w1).alloc (Nat.le_refl _) _⟩
      rw [upto_zero]
      exact World.ownsRow_lit w1 #[.int .i64 0] 1 (Nat.le_refl _) (by simp [maxLen]) rfl
    case round =>
      obtain ⟨k, x, rfl, hk, hx, hown, hB⟩ := hrel
      obtain ⟨bx, lx, _, hlast, hnext⟩ := HUP.out.entry k x hx.out
      have hul2 := upto_len_le st.d s.data.toList x
      have hxs : x < s.size := by rw [HS.out]; exact lx
      have HBX := Lib.hid bx
      have HO0 := Lib.hid hown
      have HBB := Lib.hid hB
      clear bx
      by_cases hlt : k < n
      · obtain ⟨y, hy⟩ : ∃ y, us[k + 1]? = some y := ⟨_, List.getElem?_eq_getElem (by rw [HL.out]; omega)⟩
        have hyx := hnext y hy
        obtain ⟨_, ly, _, _, _⟩ := HUP.out.entry (k + 1) y hy
        obtain ⟨x0, x1, x2⟩ := HCL.out k x hx.out
        obtain ⟨y0, y1, y2⟩ := HCL.out (k + 1) y hy
        have x0 := later_cell hB x0
        have x1 := later_cell hB x1
        have x2 := later_cell hB x2
        have y0 := later_cell hB y0
        have y1 := later_cell hB y1
        have y2 := later_cell hB y2
        have HY := Lib.hid hy
        have hE : Hid (edgeR st.d (run s.data.toList x : Nat) (badB s.data.toList x) (run s.data.toList y : Nat) (badB s.data.toList y) = edgeB st.d s.data.toList y) := Lib.hid (by
          rw [hyx]; exact (edge_ref HBX.out (by rw [← hyx]; exact ly)).symm)
        have hU : Hid (upto st.d s.data.toList y = upto st.d s.data.toList x ++ (if edgeB st.d s.data.toList y = true then [y] else [])) := Lib.hid (by rw [hyx]; exact upto_unit HBX.out lx)
        have EC : Hid (∀ W, Below w1.heap.size w1 W → Calls Tryz.prog 72 #[.pointer (some ⟨q, 0, none⟩), unitV x (run s.data.toList x : Nat) (badB s.data.toList x), unitV y (run s.data.toList y : Nat) (badB s.data.toList y)] W fun e w' => e = .returned (.bool (edgeB st.d s.data.toList y)) ∧ Below W.heap.size W w') := Lib.hid fun W hW => by
          have := HUC.out x y W ((HR.out.on HB1.out).on hW)
          rwa [hE.out] at this
        have hys : y < s.size := by rw [HS.out]; exact ly
        clear hyx hnext hlast lx ly hy hE HUC hown
        generalize (run s.data.toList x : Int) = rx at *
        generalize (run s.data.toList y : Int) = ry at *
        generalize badB s.data.toList x = bbx at *
        generalize badB s.data.toList y = bby at *
        generalize edgeB st.d s.data.toList y = eb at *
        have j0 : (0 : Int) ≤ (k : Int) := by omega
        have j1 : (k : Int) + 1 < (n : Int) + 1 := by omega
        have j2 : (k : Int) < (n : Int) + 1 := by omega
        have j3 : (0 : Int) ≤ (k : Int) + 1 := by omega
        have j4 : IntKind.i64.wrap ((k : Int) + 1 - 1) = (k : Int) := (IntWalk.i64_in _ (by omega)).trans (by omega)
        have j5 : IntKind.i64.wrap (k : Int) = (k : Int) := IntWalk.i64_in _ (by omega)
        have j8 : ((k : Int) + 1).toNat = k + 1 := by omega
        have hbx := hB
        cases eb
        all_goals
          go_wp2
          go_region_held3 (fun w' => w'.cell? ⟨g, k * 3, none⟩ = some (.int .i64 (x : Int)) ∧ w'.cell? ⟨g, k * 3 + 1, none⟩ = some (.int .i32 rx) ∧ w'.cell? ⟨g, k * 3 + 2, none⟩ = some (.bool bbx) ∧ w'.cell? ⟨g, (k + 1) * 3, none⟩ = some (.int .i64 (y : Int)) ∧ w'.cell? ⟨g, (k + 1) * 3 + 1, none⟩ = some (.int .i32 ry) ∧ w'.cell? ⟨g, (k + 1) * 3 + 2, none⟩ = some (.bool bby)) (go_keep) ((go_at_call 72; (with_reducible refine (EC.out _ (by first | exact hbx | exact hbx.drew | exact below_drewN hbx _)).mono ?_); rintro e w3 ⟨rfl, hb3⟩; have y0 := later_cell hb3 y0; have x0 := later_cell hb3 x0; have x1 := later_cell hb3 x1; have x2 := later_cell hb3 x2; have y1 := later_cell hb3 y1; have y2 := later_cell hb3 y2))
        · have HE3 : Hid (OwnInts w1.heap.size w3 u6 (upto st.d s.data.toList y) ∧ Below w1.heap.size w1 w3) := Lib.hid ⟨by
            have h9 := Rowl.own_later (World.ownsRow.drew HO0.out) hb3
            rw [OwnInts, hU.out]
            simpa using h9, HBB.out.drew.trans (hb3.mono HBB.out.drew.size)⟩
          clear hb3 hbx
          go_wp2
          go_roundw
          case rel => exact ⟨k + 1, y, by rw [Int.natCast_add]; rfl, by omega, HY, HE3.out.1, HE3.out.2⟩
          case measure => (simp [intOf]; try omega)
        · have HE3 : Hid (OwnInts w1.heap.size w3 u6 (upto st.d s.data.toList x)) := Lib.hid (Rowl.own_later (World.ownsRow.drew HO0.out) hb3)
          have HB3 : Hid (Below w1.heap.size w1 w3) := Lib.hid (HBB.out.drew.trans (hb3.mono HBB.out.drew.size))
          clear hb3 hbx
          go_wp2_with (at_builtin; refine wpList_append_int rfl rfl _ _ rfl w1.heap.size _ _ rfl HE3.out rfl (by omega) HB3.out.size ?_; rintro v' w4 hown' hgrow ⟨g', cap', rfl⟩; have HO := Lib.hid hown'; have HG := Lib.hid hgrow; clear hown' hgrow)
          go_roundw
          case rel =>
            refine ⟨k + 1, y, by rw [Int.natCast_add]; rfl, by omega, HY, ?_, HB3.out.trans HG.out⟩
            rw [OwnInts, hU.out]
            exact HO.out
          case measure => (simp [intOf]; try omega)
      · obtain rfl : k = n := by omega
        have hlen : s.size = x + wid s.data.toList x := by rw [HS.out]; exact (hlast HL.out.symm).symm
        have HF : Hid (edges st.d s.data.toList = upto st.d s.data.toList x ++ [s.size]) := Lib.hid (by
          have h1 := upto_unit (D := st.d) HBX.out lx
          rw [← hlen] at h1
          rw [HS.out] at h1 ⊢
          rw [edge_len] at h1
          rw [← upto_len H0.out]
          exact h1)
        clear hlast hnext hlen lx hown
        have j1 : ¬ (k : Int) + 1 < (k : Int) + 1 := by omega
        go_wp2_with (at_builtin; refine wpList_append_int rfl rfl _ _ rfl w1.heap.size _ _ rfl HO0.out rfl (by omega) HBB.out.size ?_; rintro v' w4 hown' hgrow ⟨g', cap', rfl⟩; have HO := Lib.hid hown'; have HG := Lib.hid hgrow; clear hown' hgrow)
        go_ret
        refine ⟨_, rfl, ?_, ?_⟩
        · rw [HF.out]
          exact own_base' HO.out HB1.out.size
        · exact HB1.out.trans ((HBB.out.trans HG.out).mono HB1.out.size)
end Go.Proofs.YtfmcadobpgpajaaGreatDoor.Ru
