/- The reference's end: the walk. -/
import Derived.Test.YtfmcadobpgpajaaGreatDoorRefEnd
namespace Go.Proofs.YtfmcadobpgpajaaGreatDoor.Rf
open Go Go.RowKit Go.Shelf Go.Proofs.YtfmcadobpgpajaaGreatDoor.Sp Go.Proofs.YtfmcadobpgpajaaGreatDoor.Pr Go.Proofs.YtfmcadobpgpajaaGreatDoor.Rowl
set_option linter.unusedSimpArgs false

theorem zip_take {L : List (Int × List Int)} {ks : List Bool} {f : (Int × List Int) × Bool → Bool} {m : Nat} {p : Int × List Int} {b : Bool} (hp : L[m]? = some p) (hk : ks[m]? = some b) : ((L.zip ks).take (m + 1)).all f = (((L.zip ks).take m).all f && f (p, b)) := by
  have hz : (L.zip ks)[m]? = some (p, b) := by rw [List.getElem?_zip_eq_some]; exact ⟨hp, hk⟩
  rw [List.take_add_one, hz, List.all_append]
  simp
theorem pts_cell {W : World} {tv : Value} {ps : List Int} (h : PtsB W tv ps) : ∃ b off c, tv = .slice (some ⟨b, off, none⟩) ps.length c ∧ ∀ (i : Nat) (x : Int), ps[i]? = some x → W.cell? ⟨b, off + i, none⟩ = some (.int .i32 x) := by
  obtain ⟨b, off, cap, cs, e, hb, h1, h2, hc⟩ := h
  exact ⟨b, off, cap, e, fun i x hi => by rw [cell_of_row W b (off + i) cs _ (0, 0) hb]; exact hc i x hi⟩
theorem infoBool : (Tryz.prog.info? 4).map (fun i => (i.zero, i.size, i.bytes)) = some (some (.bool false), 1, 1) := by kernel_rfl
def MI (L : List (Int × List Int)) (ks : List Bool) (x : Int) (m : Nat) (a b : Bool) : Prop := b = (a && ((L.zip ks).take m).all fun p => p.1.1 != x || p.2)
def KI (L : List (Int × List Int)) (ks : List Bool) (ps : List Int) (k : Nat) (a : Bool) : Prop := a = (ps.take k).all (blockB L ks)
theorem made_KS {w w1 : World} {n : Nat} (h : w1.ownsRow w.heap.size 4 1 (.slice (some ⟨w.heap.size, 0, none⟩) n n) n (madeCells (Value.bool false).cells (n * 1)).toList) : KS w.heap.size w1 (List.replicate n false) := by
  obtain ⟨_, h2⟩ := h
  rcases h2 with ⟨h2, _⟩ | ⟨g, cap, cur, e, hb, hh, hn, hm, hs, ht⟩
  · cases h2
  · simp only [Value.slice.injEq, Option.some.injEq, Addr.mk.injEq] at e
    obtain ⟨⟨rfl, _⟩, _, rfl⟩ := e
    rw [List.take_of_length_le (by rw [Array.length_toList, hs]; exact Nat.le_refl _), show (Value.bool false).cells = #[Value.bool false] from rfl, Nat.mul_one, toList_madeCells_one] at ht
    unfold KS
    rw [hh, ← Array.toArray_toList (xs := cur), ht]
    simp
theorem sound_none (D : PD) (n : Nat) : Sound D (List.replicate n false) := fun m p _ hm => by
  rw [List.getElem?_replicate] at hm
  split at hm <;> cases hm
def EndOut (w : World) (st : St) (e : Ending) (w' : World) : Prop := ∃ ks c, e = .returned (.slice (some ⟨w.heap.size, 0, none⟩) st.d.decomps.length c) ∧ KS w.heap.size w' ks ∧ ks.length = st.d.decomps.length ∧ Sound st.d ks ∧ Closed st.d ks st.d.decomps.length
set_option maxHeartbeats 8000000 in
set_option maxRecDepth 100000 in
theorem end_calls (q : Nat) (st : St) (w : World) (h : RefAt q w st) : Calls Tryz.prog 49 #[.pointer (some ⟨q, 0, none⟩)] w fun e w' => EndOut w st e w' ∧ Below w.heap.size w w' := by
  have hok := h.2.1
  have hmax := h.2.2.2.2.2
  obtain ⟨A, c, hq, hlen, hc⟩ := h.decomps
  unfold maxLen at hlen
  have HC := Lib.hid hc
  have HOK := Lib.hid hok
  have HR := Lib.hid h
  clear h hc hok
  obtain ⟨L, hL⟩ : ∃ L, st.d.decomps = L := ⟨_, rfl⟩
  have HL := Lib.hid hL
  rw [hL] at hq hlen HC hmax
  clear hL
  go_enter Tryz.func49, Tryz.ntmps49
  obtain ⟨ii, hi0, hz0, hz1, hz2⟩ := info_parts infoBool
  go_wp2_with (at_make; go_must (refine wpList_make_full w rfl _ _ _ rfl w.heap.size 4 ii _ 1 Tryz.underlying45 hi0 hz0 hz1 _ _ _ _ L.length rfl rfl rfl rfl (by rw [hz2]; omega) (by simp only [maxLen]; omega) (Nat.le_refl _) ?_; intro w1 ho1 hg1; have HO1 := Lib.hid ho1; have HG1 := Lib.hid hg1; clear ho1 hg1))
  have HE0 : Hid (EI w.heap.size w st.d (List.replicate L.length false) true w1) := Lib.hid ⟨made_KS HO1.out, by rw [List.length_replicate, HL.out], sound_none _ _, (Below.refl _ w).grown HG1.out (Nat.le_refl _) (fun k e => by cases e), fun e => by cases e⟩
  clear HO1 HG1
  go_loopw [4] (fun vm wr => ∃ (more : Bool) (ks : List Bool), vm = .bool more ∧ Hid (EI w.heap.size w st.d ks more wr)) (fun vm wr => cntW w.heap.size wr + boolN vm)
  case atStart => exact ⟨true, _, rfl, HE0⟩
  case round =>
    obtain ⟨more, ks0, rfl, HE⟩ := hrel
    rename World => w2
    clear HE0
    cases more with
    | false =>
      go_wp2
      go_ret
      refine ⟨⟨ks0, L.length, by rw [HL.out]; rfl, HE.out.1, HE.out.2.1, HE.out.2.2.1, HE.out.2.2.2.2 rfl⟩, HE.out.2.2.2.1⟩
    | true =>
      have HP0 := Lib.hid (PI.start HE.out)
      go_wp2
      go_loopw [4, 5] (fun vm vi wq => ∃ (i : Nat) (more : Bool) (ks : List Bool), vi = .int .i64 i ∧ vm = .bool more ∧ i ≤ L.length ∧ Hid (PI w.heap.size w st.d ks0 ks more i wq)) (fun _ vi _ => L.length - (intOf vi).toNat)
      case atStart => exact ⟨0, false, ks0, rfl, rfl, by omega, HP0⟩
      case round =>
        clear HP0
        obtain ⟨i, more, ks, rfl, rfl, hi, HP⟩ := hrel
        rename World => w3
        have hqr := cell_later HP.out.2.2.2.1 hq
        by_cases hlt : i < L.length
        · obtain ⟨p, hp⟩ : ∃ p, L[i]? = some p := ⟨_, List.getElem?_eq_getElem hlt⟩
          obtain ⟨g, rfl, tv, kk, _, c1, _, hpt⟩ := HC.out i p hp
          have hc1 := cell_later HP.out.2.2.2.1 c1
          obtain ⟨bt, ot, ct, rfl, hpc⟩ := pts_cell hpt
          have HPC := Lib.hid hpc
          have hpl : p.2.length ≤ 8 := (HOK.out.d8 p (by rw [HL.out]; exact List.mem_of_getElem? hp)).1
          have HCH := Lib.hid (HOK.out.chars p (by rw [HL.out]; exact List.mem_of_getElem? hp)).2
          obtain ⟨b, hb⟩ : ∃ b, ks[i]? = some b := ⟨_, List.getElem?_eq_getElem (by rw [HP.out.2.1, HL.out]; exact hlt)⟩
          have hkb := HP.out.1.at hb
          have hkf : w3.frozen? ⟨w.heap.size, i, none⟩ = false := by simp [World.frozen?, show w3.heap[w.heap.size]? = _ from HP.out.1]
          have HPI := Lib.hid hp
          have HBI := Lib.hid hb
          clear hp hb hpc hpt c1
          go_wp2
          go_loopw [6, 7] (fun va vk wz => ∃ (k : Nat) (a : Bool), vk = .int .i64 k ∧ va = .bool a ∧ k ≤ p.2.length ∧ Hid (KI L ks p.2 k a) ∧ Hid (wz.heap = w3.heap ∧ Below w.heap.size w wz)) (fun _ vk _ => p.2.length - (intOf vk).toNat)
          case atStart => exact ⟨0, true, rfl, rfl, by omega, Lib.hid rfl, Lib.hid ⟨rfl, HP.out.2.2.2.1⟩⟩
          case round =>
            obtain ⟨k, a, rfl, rfl, hk, HK, HZ⟩ := hrel
            rename World => w4
            have hq4 := cell_later HZ.out.2 hq
            have hc4 : w4.cell? ⟨g, i * 3 + 1, none⟩ = some (.slice (some ⟨bt, ot, none⟩) p.2.length ct) := (World.cell?_of_block (a := ⟨g, i * 3 + 1, none⟩) (by rw [HZ.out.1])).trans hc1
            by_cases hkl : k < p.2.length
            · obtain ⟨x, hx⟩ : ∃ x, p.2[k]? = some x := ⟨_, List.getElem?_eq_getElem hkl⟩
              have hxc : w4.cell? ⟨bt, ot + k, none⟩ = some (.int .i32 x) := (World.cell?_of_block (a := ⟨bt, ot + k, none⟩) (by rw [HZ.out.1])).trans (cell_later HP.out.2.2.2.1 (HPC.out k x hx))
              obtain ⟨hx0, hx1⟩ := char_bounds (HCH.out x (List.mem_of_getElem? hx))
              have HX := Lib.hid hx
              clear hx
              go_wp2
              go_loopw [6, 8] (fun va vm wy => ∃ (m : Nat) (b' : Bool), vm = .int .i64 m ∧ va = .bool b' ∧ m ≤ L.length ∧ Hid (MI L ks x m a b') ∧ Hid (wy.heap = w3.heap ∧ Below w.heap.size w wy)) (fun _ vm _ => L.length - (intOf vm).toNat)
              case atStart => exact ⟨0, a, rfl, rfl, by omega, Lib.hid (by unfold MI; simp), HZ⟩
              case round =>
                obtain ⟨m, b', rfl, rfl, hm, HMI, HY⟩ := hrel
                rename World => w5
                have hq5 := cell_later HY.out.2 hq
                have hc5 : w5.cell? ⟨g, i * 3 + 1, none⟩ = some (.slice (some ⟨bt, ot, none⟩) p.2.length ct) := (World.cell?_of_block (a := ⟨g, i * 3 + 1, none⟩) (by rw [HY.out.1])).trans hc1
                have hx5 : w5.cell? ⟨bt, ot + k, none⟩ = some (.int .i32 x) := (World.cell?_of_block (a := ⟨bt, ot + k, none⟩) (by rw [HY.out.1, HZ.out.1])).trans hxc
                by_cases hml : m < L.length
                · obtain ⟨pm, hpm⟩ : ∃ pm, L[m]? = some pm := ⟨_, List.getElem?_eq_getElem hml⟩
                  obtain ⟨gg, hgg, tvm, km, d0, _, _, _⟩ := HC.out m pm hpm
                  obtain ⟨rfl⟩ : gg = g := by injection hgg with hgg; injection hgg with hgg; exact hgg.symm
                  have d5 := cell_later HY.out.2 d0
                  obtain ⟨bm, hbm⟩ : ∃ bm, ks[m]? = some bm := ⟨_, List.getElem?_eq_getElem (by rw [HP.out.2.1, HL.out]; exact hml)⟩
                  have hkm5 : w5.cell? ⟨w.heap.size, m, none⟩ = some (.bool bm) := (World.cell?_of_block (a := ⟨w.heap.size, m, none⟩) (by rw [HY.out.1])).trans (HP.out.1.at hbm)
                  have HMN : Hid (MI L ks x (m + 1) a (b' && (pm.1 != x || bm))) := Lib.hid (by
                    have := HMI.out
                    unfold MI at this ⊢
                    rw [zip_take hpm hbm, this, Bool.and_assoc])
                  have f1 : (0 : Int) ≤ (m : Int) := by omega
                  have f2 : (m : Int) < (L.length : Int) := by omega
                  have f3 : (0 : Int) ≤ (i : Int) := by omega
                  have f4 : (i : Int) < (L.length : Int) := by omega
                  have f5 : (0 : Int) ≤ (k : Int) := by omega
                  have f6 : (k : Int) < (p.2.length : Int) := by omega
                  clear hpm hbm d0
                  cases b' with
                  | false =>
                    go_wp2
                    go_region
                    go_wp2
                    refine ⟨⟨m + 1, false, by go_num, rfl, by omega, HMN, Lib.hid ⟨HY.out.1, HY.out.2.drew⟩⟩, ?_⟩
                    simp [intOf]
                    omega
                  | true =>
                    by_cases hmx : pm.1 = x
                    · have e1 : (pm.1 != x) = false := by rw [hmx]; simp
                      rw [e1] at HMN
                      generalize pm.1 = pmx at *
                      clear hmx
                      cases bm
                      all_goals
                        go_wp2
                        go_region
                        go_wp2
                        refine ⟨⟨m + 1, _, by go_num, rfl, by omega, HMN, Lib.hid ⟨HY.out.1, HY.out.2.drew⟩⟩, ?_⟩
                        simp [intOf]
                        omega
                    · have e1 : (pm.1 != x) = true := bne_iff_ne.2 hmx
                      rw [e1] at HMN
                      generalize pm.1 = pmx at *
                      clear hmx
                      go_wp2
                      go_region
                      go_wp2
                      refine ⟨⟨m + 1, _, by go_num, rfl, by omega, HMN, Lib.hid ⟨HY.out.1, HY.out.2.drew⟩⟩, ?_⟩
                      simp [intOf]
                      omega
                · have hme : m = L.length := by omega
                  subst hme
                  have HKN : Hid (KI L ks p.2 (k + 1) b') := Lib.hid (by
                    have := HMI.out
                    have hk0 := HK.out
                    unfold MI at this
                    unfold KI at hk0 ⊢
                    rw [List.take_add_one, HX.out, List.all_append, ← hk0, this, List.take_of_length_le (by simp; omega)]
                    simp [blockB])
                  go_wp2
                  refine ⟨⟨k + 1, b', by go_num, rfl, by omega, HKN, HY⟩, ?_⟩
                  simp [intOf]
                  omega
            · have hke : k = p.2.length := by omega
              subst hke
              have hkb4 : w4.cell? ⟨w.heap.size, i, none⟩ = some (.bool b) := (World.cell?_of_block (a := ⟨w.heap.size, i, none⟩) (by rw [HZ.out.1])).trans hkb
              have hkf4 : w4.frozen? ⟨w.heap.size, i, none⟩ = false := (World.frozen?_of_block (a := ⟨w.heap.size, i, none⟩) (by rw [HZ.out.1])).trans hkf
              have ha : a = p.2.all (blockB st.d.decomps ks) := by
                have := HK.out
                unfold KI at this
                rw [List.take_of_length_le (Nat.le_refl _)] at this
                rw [HL.out]; exact this
              have HN := Lib.hid (PI.step HOK.out HP.out HZ.out.1 HZ.out.2 (by rw [HL.out]; exact HPI.out) HBI.out ha)
              clear ha
              cases more <;> cases a <;> cases b
              all_goals
                go_wp2
                refine ⟨⟨i + 1, _, _, by go_num, rfl, by omega, HN⟩, ?_⟩
                simp [intOf]
                omega
        · have hie : i = L.length := by omega
          subst hie
          have HD : Hid (EI w.heap.size w st.d ks more w3) := Lib.hid (by have := HP.out; rw [← HL.out] at this; exact this.done)
          have HM : Hid (cntW w.heap.size w3 + boolN (.bool more) < cntW w.heap.size w2 + boolN (.bool true)) := Lib.hid (by
            rw [KS.count HP.out.1, KS.count HE.out.1]
            have a1 := HP.out.2.2.2.2.2.1
            have a2 := HP.out.2.2.2.2.2.2
            cases more with
            | false => simp only [boolN]; omega
            | true => have := a2 rfl; simp only [boolN]; omega)
          go_wp2
          exact ⟨⟨more, ks, rfl, HD⟩, HM.out⟩
end Go.Proofs.YtfmcadobpgpajaaGreatDoor.Rf
