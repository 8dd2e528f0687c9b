/- PropsPairs: the walk: what is composed decomposes into just these; it is the least. -/
import Derived.Test.YthonikkoafoohaaGreatDoorBParse
import Derived.Test.YthonikkoafoohaaGreatDoorBPlain
import Derived.Deep.RegionHeld3
import Derived.Deep.DeepCutAuto
namespace Go.Proofs.YthonikkoafoohaaGreatDoor.Pr
open Go Go.RowKit Go.Shelf Go.Proofs.YthonikkoafoohaaGreatDoor.Sp Go.Proofs.YthonikkoafoohaaGreatDoor.Mapl Go.Proofs.YthonikkoafoohaaGreatDoor.Rowl
set_option linter.unusedSimpArgs false

theorem own_nil (base : Nat) (W : World) : OwnPts base W (.slice none 0 0) [] := ⟨rfl, .inl ⟨rfl, rfl⟩⟩
theorem ReadPts.addr {W : World} {A : Option Addr} {n c : Nat} {l : List Int} (h : ReadPts W (.slice A n c) l) (hl : 0 < l.length) : ∃ b off, A = some ⟨b, off, none⟩ := by
  obtain ⟨b, off, c', e⟩ := h.pos hl
  simp only [Value.slice.injEq] at e
  exact ⟨b, off, e.1⟩
/-- Points appended to a row of a call's own. -/
theorem wpList_append_pts {ops : Array Oper} {rest : List Oper} {o : Oper} {ac : Act} {Q : Exit → Act → World → Prop} {w : World} (hgd : o.guard = none) (s x : Operand)
    (ho : o.op = .call { callee := .builtin .append, args := #[s, x], argTypes := #[36, 36] })
    (base : Nat) (v : Value) (L M : List Int) (hs : ac.eval s = v) (hown : OwnPts base w v L)
    (b off c : Nat) (hx : ac.eval x = .slice (some ⟨b, off, none⟩) M.length c) (hcell : ∀ i y, M[i]? = some y → w.cell? ⟨b, off + i, none⟩ = some (.int .i32 y))
    (h63 : L.length + M.length ≤ 1048576) (hbase : base ≤ w.heap.size)
    (h : ∀ v' w', OwnPts base w' v' (L ++ M) → w.grownBy w' v.ownBlock → wpList Tryz.prog ops Q rest (ac.put o.dst v') w') :
    wpList Tryz.prog ops Q (o :: rest) ac w := by
  obtain ⟨i, hi, hz0, hz1, hz2⟩ := info_parts infoRune
  refine wpList_append_own_at w hgd s x 36 ho base 21 i (.int .i32 0) 1 4 Tryz.underlying36 hi hz0 hz1 hz2 rfl (by decide) v L.length (enc L) hs hown ⟨b, off, none⟩ M.length c (enc M) hx (by rw [enc_length, Nat.mul_one]) (Pts.cells hcell) (enc_one M) (by simp only [maxLen]; omega) (by omega) hbase ?_
  intro v' w' ho' hg _ _
  refine h v' w' ?_ hg
  unfold OwnPts
  rw [show enc (L ++ M) = enc L ++ enc M by simp [enc], List.length_append]
  exact ho'
theorem two_appends {w4 w5 w6 : World} (hg5 : w4.grownBy w5 (Value.slice none 0 0).ownBlock) (o : Obj) {v5 : Value} {L : List Int} (ho5 : OwnPts w4.heap.size w5 v5 L) (hg6 : (w5.alloc o).grownBy w6 v5.ownBlock) : Below w4.heap.size w4 w6 :=
  (((Below.refl _ w4).grown hg5 (Nat.le_refl _) (fun k e => by cases e)).alloc hg5.size o).grown hg6 (by have := hg5.size; rw [World.size_alloc]; omega) (fun k e => (own_block ho5 e).1)
def Back (D : PD) : Prop := ∀ q x y, decompOf D q = [x, y] → classOf D x = 0 → ∃ c, composeOf D x y = some c ∧ (c ≤ q ∨ (44032 ≤ c ∧ c ≤ 55203))
theorem back_of {s : Bytes} {D : PD} (h : parse s = .ok D) : Back D := by
  obtain ⟨st, _, _, rfl, hok⟩ := parse_ok h
  intro q x y h1 h2
  obtain ⟨c, e1, e2⟩ := decomp_back h1 h2
  refine ⟨c, e1, ?_⟩
  rcases e2 with e2 | e2
  · exact .inl e2
  · have : 44032 ≤ c ∧ c < 55204 := by simpa [isSyl] using e2
    exact .inr ⟨this.1, by omega⟩
/-- What a point that was composed leads to. -/
def Fwd (D : PD) (a b r : Int) : Prop := classOf D a = 0 ∧ ((44032 ≤ r ∧ r ≤ 55203 ∧ 44032 ≤ a ∧ a ≤ 55203 ∧ 0 < (decompOf D a).length ∧ (decompOf D a).length ≤ 3 ∧ decompOf D r = decompOf D a ++ [b]) ∨ ((r < 44032 ∨ 55203 < r ∨ a < 44032 ∨ 55203 < a) ∧ decompOf D r = [a, b]))
theorem fwd_of {s : Bytes} {D : PD} (h : parse s = .ok D) {a b r : Int} (hc : composeOf D a b = some r) : Fwd D a b r := by
  obtain ⟨st, _, _, rfl, hok⟩ := parse_ok h
  obtain ⟨h1, h2⟩ := compose_back hok hc
  refine ⟨h1, ?_⟩
  by_cases hr : isSyl r = true
  · have k1 : 44032 ≤ r ∧ r < 55204 := by simpa [isSyl] using hr
    by_cases ha : isSyl a = true
    · have k2 : 44032 ≤ a ∧ a < 55204 := by simpa [isSyl] using ha
      rw [hr, ha] at h2
      have e : decompOf st.d a = sylOf a := by unfold decompOf; rw [if_pos ha]
      have hl : 0 < (decompOf st.d a).length ∧ (decompOf st.d a).length ≤ 3 := by
        rw [e]
        unfold sylOf
        simp only
        split <;> simp
      exact .inl ⟨k1.1, by omega, k2.1, by omega, hl.1, hl.2, h2⟩
    · have ha' : isSyl a = false := by simpa using ha
      have k2 : ¬ (44032 ≤ a ∧ a < 55204) := by simpa [isSyl] using ha
      rw [hr, ha'] at h2
      exact .inr ⟨by omega, h2⟩
  · have hr' : isSyl r = false := by simpa using hr
    have k1 : ¬ (44032 ≤ r ∧ r < 55204) := by simpa [isSyl] using hr
    rw [hr'] at h2
    exact .inr ⟨by omega, h2⟩
theorem pairs_long (s : ByteArray) (a b : Int) (av : Value) (w : World) (h : 4096 < (s.size : Int)) : Calls Tryz.prog 4 #[.string s, .int .i32 a, .int .i32 b, av] w fun e w' => e = .returned (.bool true) ∧ Below w.heap.size w w' := by
  go_enter Tryz.func4, Tryz.ntmps4
  go_wp2
  go_ret
  exact ⟨rfl, Below.refl _ _⟩
set_option maxHeartbeats 4000000 in
set_option maxRecDepth 100000 in
theorem pairs_bad (s : ByteArray) (a b : Int) (av : Value) {m : Int} {ev : Value} (w : World) (hv : Vars w.heap.size w m ev) (hs : (s.size : Int) ≤ 4096) {x : Int × Option Int} (h : parse s.data.toList = .error x) : Calls Tryz.prog 4 #[.string s, .int .i32 a, .int .i32 b, av] w fun e w' => e = .returned (.bool true) ∧ Below w.heap.size w w' := by
  have RD := Lib.hid (read_bad (by omega) hv h)
  have HV := Lib.hid hv
  clear h hv
  go_enter Tryz.func4, Tryz.ntmps4
  go_wp2_with (first
    | (go_at_call 14; refine RD.out.mono ?_; rintro e w1 ⟨rfl, hb⟩; have WK := Lib.hid (works_calls w1 (HV.out.on hb)))
    | (go_at_call 10; refine WK.out.mono ?_; rintro e w2 ⟨rfl, hb2⟩))
  go_ret
  exact ⟨rfl, hb.trans (hb2.mono hb.size)⟩
set_option maxHeartbeats 8000000 in
set_option maxRecDepth 100000 in
theorem pairs_good (s : ByteArray) (a b : Int) (av : Value) (ask : List Int) {m : Int} {ev : Value} (w : World) (hv : Vars w.heap.size w m ev) (hask : ReadPts w av ask) (hs : (s.size : Int) ≤ 4096) {D : PD} (h : parse s.data.toList = .ok D) : Calls Tryz.prog 4 #[.string s, .int .i32 a, .int .i32 b, av] w fun e w' => e = .returned (.bool true) ∧ Below w.heap.size w w' := by
  have RD := Lib.hid (read_good (by omega) hv h)
  have HV := Lib.hid hv
  have HBK := Lib.hid (back_of h)
  obtain ⟨r, t, hx⟩ := pair_lit (composeOf D a b)
  have HF : Hid (t = true → Fwd D a b r) := Lib.hid fun ht => fwd_of h (by
    cases hc : composeOf D a b with
    | none => rw [hc, ht] at hx; simp [pairOut] at hx
    | some r' =>
      rw [hc] at hx
      simp only [pairOut, Value.tuple.injEq, Array.mk.injEq, List.cons.injEq, Value.int.injEq, true_and] at hx
      rw [hx.1])
  have HX := Lib.hid hx
  have hal := hask.len
  unfold maxLen at hal
  obtain ⟨A0, C0, rfl⟩ := hask.slice
  have HA := Lib.hid hask
  clear h hv hx hask
  go_enter Tryz.func4, Tryz.ntmps4
  go_wp2_with fail
  refine RD.out.mono ?_
  rintro e w1 ⟨p, rfl, H1, hb1⟩
  have HB1 := Lib.hid hb1
  have c1 := Lib.hid (compAt H1 HX.out)
  have hbx := Below.refl w1.heap.size w1
  have HP := Lib.hid H1
  clear hb1 H1
  go_upto_if 34 with ((go_at_call 11; (with_reducible refine (c1.out _ hbx).mono ?_); rintro e w2 ⟨rfl, hb⟩; replace hbx := hbx.trans (hb.mono hbx.size); clear hb))
  go_cut [] (fun wx => Hid (Below w1.heap.size w1 wx))
  case first =>
    cases t
    · go_wp2_with fail
      go_meet
      exact Lib.hid hbx
    · obtain ⟨hcl, hd⟩ := HF.out rfl
      have k0 := Lib.hid (classAt HP.out hcl)
      clear hcl
      rcases hd with ⟨r1, r2, a1, a2, hn, h3, he⟩ | ⟨hw, he⟩
      · have d1 := Lib.hid (decompAt HP.out he)
        have d2 := Lib.hid (decompAt (r := a) HP.out rfl)
        clear he
        generalize decompOf D a = L at *
        go_wp2_with (first
          | (go_at_call 15; (with_reducible refine (d1.out _ hbx).mono ?_); rintro e w3 ⟨A3, C3, rfl, R3, hb⟩; replace hbx := hbx.trans (hb.mono hbx.size); clear hb; rw [List.length_append] at R3)
          | (go_at_call 15; (with_reducible refine (d2.out _ hbx).mono ?_); rintro e w4 ⟨A4, C4, rfl, R4, hb⟩; replace R3 := R3.on hb; replace hbx := hbx.trans (hb.mono hbx.size); clear hb; obtain ⟨b4, o4, rfl⟩ := R4.addr hn; have HC4 := Lib.hid R4.cell; clear R4)
          | (at_builtin; refine wpList_append_pts rfl _ _ rfl w4.heap.size (.slice none 0 0) [] L rfl (own_nil _ _) b4 o4 _ rfl HC4.out (by simp; omega) (Nat.le_refl _) ?_; intro v5 w5 ho5 hg5; have hz5 := Lib.hid hg5; have ho5' := Lib.hid ho5; clear HC4 hg5 ho5)
          | (at_builtin; refine wpList_append_pts rfl _ _ rfl w4.heap.size v5 L [b] rfl (World.ownsRow.alloc ho5'.out _) w5.heap.size 0 _ rfl (ReadPts.cell (ReadPts.new w5 [b] (by simp [maxLen]))) (by simp; omega) (by have := hz5.out.size; rw [World.size_alloc]; omega) ?_; intro v6 w6 ho6 hg6; have HT := two_appends hz5.out _ ho5'.out hg6; replace R3 := R3.on HT; replace hbx := hbx.trans (HT.mono hbx.size); have R6 := ReadPts.own ho6; clear hg6 ho6 HT)
          | (go_at_call 16; refine (same_true _ _ (L ++ [b]) _ R3 R6).mono ?_; rintro e w7 ⟨rfl, hb⟩; replace hbx := hbx.trans (hb.mono hbx.size); clear hb R3 R6)
          | (go_at_call 17; (with_reducible refine (k0.out _ hbx).mono ?_); rintro e w8 ⟨rfl, hb⟩; replace hbx := hbx.trans (hb.mono hbx.size); clear hb))
        go_meet
        exact Lib.hid hbx
      · have d1 := Lib.hid (decompAt HP.out he)
        have d2 := Lib.hid (decompAt (r := a) HP.out rfl)
        clear he
        generalize decompOf D a = L at *
        have hw4 : r < 44032 ∨ (44032 ≤ r ∧ 55203 < r) ∨ (44032 ≤ r ∧ r ≤ 55203 ∧ a < 44032) ∨ (44032 ≤ r ∧ r ≤ 55203 ∧ 44032 ≤ a ∧ 55203 < a) := by omega
        clear hw
        rcases hw4 with hw | ⟨k1, k2⟩ | ⟨k1, k2, k3⟩ | ⟨k1, k2, k3, k4⟩
        all_goals
          go_wp2_with (first
            | (go_at_call 15; (with_reducible refine (d1.out _ hbx).mono ?_); rintro e w3 ⟨A3, C3, rfl, R3, hb⟩; replace hbx := hbx.trans (hb.mono hbx.size); clear hb)
            | (go_at_call 15; (with_reducible refine (d2.out _ hbx).mono ?_); rintro e w4 ⟨A4, C4, rfl, R4, hb⟩; replace R3 := R3.on hb; replace hbx := hbx.trans (hb.mono hbx.size); clear hb; have HC4 := Lib.hid True.intro; clear R4)
            | (at_builtin; have h00 := HC4.out; refine wpList_append_pts rfl _ _ rfl (w4.alloc (.cells #[.int .i32 a] 21)).heap.size (.slice none 0 0) [] [a] rfl (own_nil _ _) w4.heap.size 0 _ rfl (ReadPts.cell (ReadPts.new w4 [a] (by simp [maxLen]))) (by simp) (Nat.le_refl _) ?_; intro v5 w5 ho5 hg5; have hz5 := Lib.hid hg5; have ho5' := Lib.hid ho5; clear HC4 hg5 ho5)
            | (at_builtin; refine wpList_append_pts rfl _ _ rfl (w4.alloc (.cells #[.int .i32 a] 21)).heap.size v5 [a] [b] rfl (World.ownsRow.alloc ho5'.out _) w5.heap.size 0 _ rfl (ReadPts.cell (ReadPts.new w5 [b] (by simp [maxLen]))) (by simp) (Nat.le_trans hz5.out.size (by rw [World.size_alloc]; omega)) ?_; intro v6 w6 ho6 hg6; have HT := ((Below.refl _ w4).alloc (Nat.le_refl _) _).trans ((two_appends hz5.out _ ho5'.out hg6).mono (by rw [World.size_alloc]; omega)); replace R3 := R3.on HT; replace hbx := hbx.trans (HT.mono hbx.size); have R6 := ReadPts.own ho6; clear hg6 ho6 HT)
            | (go_at_call 16; refine (same_true _ _ [a, b] _ R3 R6).mono ?_; rintro e w7 ⟨rfl, hb⟩; replace hbx := hbx.trans (hb.mono hbx.size); clear hb R3 R6)
            | (go_at_call 17; (with_reducible refine (k0.out _ hbx).mono ?_); rintro e w8 ⟨rfl, hb⟩; replace hbx := hbx.trans (hb.mono hbx.size); clear hb))
          go_meet
          exact Lib.hid hbx
  case rest =>
    have HC := Lib.hid hcut.out
    clear hcut
    go_wp2
    go_loopw [15] (fun vi wr => ∃ k : Nat, vi = .int .i64 k ∧ k ≤ ask.length ∧ Hid (Below w1.heap.size w1 wr)) (fun vi _ => ask.length - (intOf vi).toNat)
    case atStart => exact ⟨0, rfl, Nat.zero_le _, HC⟩
    case round =>
      obtain ⟨k, rfl, hk, HR⟩ := hrel
      by_cases hlt : k < ask.length
      · by_cases h300 : k < 300
        · obtain ⟨b0, o0, rfl⟩ := HA.out.addr (by omega)
          obtain ⟨q, hq⟩ : ∃ q, ask[k]? = some q := ⟨_, List.getElem?_eq_getElem hlt⟩
          have RA := Lib.hid ((HA.out.on HB1.out).on HR.out)
          have hcq : wr.cell? ⟨b0, o0 + k, none⟩ = some (.int .i32 q) := RA.out.cell k q hq
          have d := Lib.hid (decompAt (r := q) HP.out rfl)
          have hby := HR.out
          have HQ := Lib.hid hq
          clear hq
          obtain ⟨l, hl⟩ : ∃ l, decompOf D q = l := ⟨_, rfl⟩
          rw [hl] at d
          have HL := Lib.hid hl
          clear hl
          by_cases h2 : l.length = 2
          · obtain ⟨x, y, rfl⟩ : ∃ x y, l = [x, y] := by
              match l, h2 with
              | [x, y], _ => exact ⟨x, y, rfl⟩
            clear h2
            by_cases hc : classOf D x = 0
            · obtain ⟨c, e1, e2⟩ := HBK.out q x y HL.out hc
              have kc := Lib.hid (classAt HP.out hc)
              have cm := Lib.hid (comp_some HP.out e1)
              clear e1 hc
              rcases e2 with e2 | ⟨e2, e3⟩
              all_goals
                go_wp2_with (first
                  | (go_at_call 15; (with_reducible refine (d.out _ hby).mono ?_); rintro e w3 ⟨A3, C3, rfl, R3, hb⟩; replace hby := hby.trans (hb.mono hby.size); replace RA := Lib.hid (RA.out.on hb); clear hb; obtain ⟨b3, o3, rfl⟩ := R3.addr (by simp); have hx3 := R3.cell 0 x rfl; have hy3 := R3.cell 1 y rfl; simp only [Nat.add_zero] at hx3)
                  | (go_at_call 17; (with_reducible refine (kc.out _ hby).mono ?_); rintro e w4 ⟨rfl, hb⟩; replace hby := hby.trans (hb.mono hby.size); replace RA := Lib.hid (RA.out.on hb); replace R3 := R3.on hb; clear hb hx3 hy3; have hx3 := R3.cell 0 x rfl; have hy3 := R3.cell 1 y rfl; simp only [Nat.add_zero] at hx3))
                go_region_held3 (fun w' => w'.cell? ⟨b3, o3, none⟩ = some (.int .i32 x) ∧ w'.cell? ⟨b3, o3 + 1, none⟩ = some (.int .i32 y)) (go_keep) ((go_at_call 11; refine (cm.out _ (by first | exact hby | exact hby.drew | exact below_drewN hby _)).mono ?_; rintro e w5 ⟨rfl, hb⟩; have hx5 := (cell_later hb hx3); have hy5 := (cell_later hb hy3)))
                have hb4 : Below w4.heap.size w4 w5 := (Below.refl _ w4).drew.trans hb
                have hcq5 : w5.cell? ⟨b0, o0 + k, none⟩ = some (.int .i32 q) := (RA.out.on hb4).cell k q HQ.out
                replace hby := hby.trans (hb4.mono hby.size)
                clear hb4 hb hx3 hy3 R3 hx5 hy5
                go_wp2
                all_goals
                  refine ⟨⟨k + 1, by go_num, by omega, Lib.hid hby⟩, ?_⟩
                  simp [intOf]
                  omega
            · obtain ⟨cx, hcx⟩ : ∃ cx, classOf D x = cx := ⟨_, rfl⟩
              have kc := Lib.hid (classAt HP.out hcx)
              rw [hcx] at hc
              have hcn : (cx != 0) = true := bne_iff_ne.2 hc
              clear hc hcx
              go_wp2_with (first
                | (go_at_call 15; (with_reducible refine (d.out _ hby).mono ?_); rintro e w3 ⟨A3, C3, rfl, R3, hb⟩; replace hby := hby.trans (hb.mono hby.size); clear hb; obtain ⟨b3, o3, rfl⟩ := R3.addr (by simp); have hx3 := R3.cell 0 x rfl; simp only [Nat.add_zero] at hx3)
                | (go_at_call 17; (with_reducible refine (kc.out _ hby).mono ?_); rintro e w4 ⟨rfl, hb⟩; replace hby := hby.trans (hb.mono hby.size); clear hb hx3))
              refine ⟨⟨k + 1, by go_num, by omega, Lib.hid hby⟩, ?_⟩
              simp [intOf]
              omega
          · have hln : ((l.length : Int) != 2) = true := bne_iff_ne.2 (by omega)
            go_wp2_with (go_at_call 15; (with_reducible refine (d.out _ hby).mono ?_); rintro e w3 ⟨A3, C3, rfl, R3, hb⟩; replace hby := hby.trans (hb.mono hby.size); clear hb)
            refine ⟨⟨k + 1, by go_num, by omega, Lib.hid hby⟩, ?_⟩
            simp [intOf]
            omega
        · have hge : 300 ≤ k := by omega
          go_wp2_with (go_at_call 10; refine (works_calls _ ((HV.out.on HB1.out).on HR.out)).mono ?_; rintro e w9 ⟨rfl, hb9⟩)
          go_ret
          exact ⟨rfl, (HB1.out.trans (HR.out.mono HB1.out.size)).trans (hb9.mono (Nat.le_trans HB1.out.size HR.out.size))⟩
      · have hge : ask.length ≤ k := by omega
        go_wp2_with (go_at_call 10; refine (works_calls _ ((HV.out.on HB1.out).on HR.out)).mono ?_; rintro e w9 ⟨rfl, hb9⟩)
        go_ret
        exact ⟨rfl, (HB1.out.trans (HR.out.mono HB1.out.size)).trans (hb9.mono (Nat.le_trans HB1.out.size HR.out.size))⟩
theorem pairs_calls (s : ByteArray) (a b : Int) (av : Value) (ask : List Int) {m : Int} {ev : Value} (w : World) (hv : Vars w.heap.size w m ev) (hask : ReadPts w av ask) : Calls Tryz.prog 4 #[.string s, .int .i32 a, .int .i32 b, av] w fun e w' => e = .returned (.bool true) ∧ Below w.heap.size w w' := by
  by_cases h : 4096 < (s.size : Int)
  · exact pairs_long s a b av w h
  · cases hp : parse s.data.toList with
    | error x => exact pairs_bad s a b av w hv (by omega) hp
    | ok D => exact pairs_good s a b av ask w hv hask (by omega) hp
end Go.Proofs.YthonikkoafoohaaGreatDoor.Pr
