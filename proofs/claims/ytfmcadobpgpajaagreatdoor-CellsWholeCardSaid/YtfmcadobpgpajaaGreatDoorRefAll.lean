/- The reference's All and Edge (glossaryref09): the walks. -/
import Derived.Test.YtfmcadobpgpajaaGreatDoorRefEdges
import Derived.Deep.RegionHeld3
import Derived.Deep.AppendLies
namespace Go.Proofs.YtfmcadobpgpajaaGreatDoor.Ru
open Go Go.RowKit Go.Lib Go.Proofs.YtfmcadobpgpajaaGreatDoor.Ut Go.Proofs.YtfmcadobpgpajaaGreatDoor.Sp Go.Proofs.YtfmcadobpgpajaaGreatDoor.Rf Go.Proofs.YtfmcadobpgpajaaGreatDoor.Pr Go.Proofs.YtfmcadobpgpajaaGreatDoor.Cl
set_option linter.unusedSimpArgs false
set_option linter.unusedVariables false

/-- A row of numbers that can be read. -/
def ReadInts (W : World) (A : Option Addr) (l : List Nat) : Prop := ∀ (i x : Nat), l[i]? = some x → ∃ g, A = some ⟨g, 0, none⟩ ∧ W.cell? ⟨g, i, none⟩ = some (.int .i64 (x : Int))
theorem ReadInts.own {n₀ : Nat} {W : World} {v : Value} {l : List Nat} (h : OwnInts n₀ W v l) : ∃ A c, v = .slice A l.length c ∧ ReadInts W A l := by
  cases l with
  | nil =>
    rcases h.2 with ⟨rfl, _⟩ | ⟨g, cap, cur, rfl, _⟩
    · exact ⟨_, _, rfl, fun i x hi => by simp at hi⟩
    · exact ⟨_, _, rfl, fun i x hi => by simp at hi⟩
  | cons y l =>
    obtain ⟨g, cap, rfl⟩ := ownsRow_succ (k := l.length) h
    refine ⟨_, cap, rfl, fun i x hi => ⟨g, rfl, ?_⟩⟩
    have k1 : (ints (y :: l))[i]? = some (.int .i64 (x : Int)) := by rw [ints, List.getElem?_map, hi]; rfl
    have a1 := World.ownsRow.cells h (g := g) rfl i _ k1
    rwa [show ((⟨g, 0, none⟩ : Addr).add i) = ⟨g, i, none⟩ by (unfold Addr.add; split <;> simp_all)] at a1
theorem edges_len_le (D : PD) (l : List UInt8) : (edges D l).length ≤ l.length + 1 := by
  unfold edges
  split
  · simp
  · have := List.length_filter_le (edgeB D l) (List.range (l.length + 1))
    rwa [List.length_range] at this
theorem take_pairs {l : List Nat} {k x y : Nat} (hx : l[k]? = some x) (hy : l[k + 1]? = some y) : pairs (l.take (k + 1 + 1)) = pairs (l.take (k + 1)) ++ [(x, y)] := by
  rw [List.take_add_one (i := k + 1), hy, List.take_add_one (i := k), hx]
  exact pairs_snoc _ _ _
theorem wpList_append_pair {ops : Array Oper} {rest : List Oper} {o : Oper} {ac : Act} {Q : Exit → Act → World → Prop} {W : World} {a b : Nat} {az bz : Int} (haz : az = (a : Int)) (hbz : bz = (b : Int)) (hgd : o.guard = none) (s x : Operand)
    (ho : o.op = .call { callee := .builtin .append, args := #[s, x], argTypes := #[34, 34] })
    (base : Nat) (v : Value) (L : List (Nat × Nat)) (hs : ac.eval s = v) (hown : OwnPairs base W v L) (hx : ac.eval x = .slice (some ⟨W.heap.size, 0, none⟩) 1 1)
    (h63 : L.length ≤ 1048577) (hbase : base ≤ W.heap.size)
    (h : ∀ v' w', OwnPairs base w' v' (L ++ [(a, b)]) → Below base W w' → (∃ g cap, v' = .slice (some ⟨g, 0, none⟩) (L.length + 1) cap) → wpList Tryz.prog ops Q rest (ac.put o.dst v') w') :
    wpList Tryz.prog ops Q (o :: rest) ac (W.alloc (.cells #[.int .i64 az, .int .i64 bz] 46)) := by
  subst haz
  subst hbz
  obtain ⟨ii, hi0, hz0, hz1, hz2⟩ := info_parts infoPairs
  refine wpList_append_own_at (W.alloc (.cells #[.int .i64 (a : Int), .int .i64 (b : Int)] 46)) hgd s x 34 ho base 46 ii _ 2 16 Tryz.underlying34 hi0 hz0 hz1 hz2 rfl (by decide) v L.length (flatP L) hs (World.ownsRow.alloc hown _) ⟨W.heap.size, 0, none⟩ 1 1 [.int .i64 (a : Int), .int .i64 (b : Int)] hx rfl (cells_laid W [.int .i64 (a : Int), .int .i64 (b : Int)] rfl (by simp [maxLen])) (by simp [Value.oneCell']) (by simp only [maxLen]; omega) (by omega) (by rw [World.size_alloc]; omega) ?_
  intro v' w' ho' hg _ _
  refine h v' w' ?_ (((Below.refl _ W).alloc hbase _).grown hg (by rw [World.size_alloc]; omega) (fun k e => (own_block hown e).1)) ?_
  · rw [OwnPairs, flatP_snoc, List.length_append]; exact ho'
  · exact ownsRow_succ ho'
set_option maxHeartbeats 8000000 in
set_option maxRecDepth 100000 in
theorem RAll_calls (q : Nat) (st : St) (s : ByteArray) (hs : s.size ≤ 1048576) (w : World) (H : RefAt q w st) : Calls Tryz.prog 12 #[.pointer (some ⟨q, 0, none⟩), .string s] w fun e w' => PairsOut (cells st.d s.data.toList) w e w' := by
  have hel := edges_len_le st.d s.data.toList
  rw [← Lib.size_eq s] at hel
  have HE : Hid (Calls Tryz.prog 38 #[.pointer (some ⟨q, 0, none⟩), .string s] w fun e w' => ∃ A c, e = .returned (.slice A (edges st.d s.data.toList).length c) ∧ ReadInts w' A (edges st.d s.data.toList) ∧ Below w.heap.size w w') := Lib.hid ((Edges_calls q st s hs w H).mono (by
    rintro e w' ⟨v, rfl, ho, hb⟩
    obtain ⟨A, c, rfl, hr⟩ := ReadInts.own ho
    exact ⟨A, c, rfl, hr, hb⟩))
  clear H
  unfold cells
  obtain ⟨ii, hi0, hz0, hz1, hz2⟩ := info_parts infoPairs
  generalize edges st.d s.data.toList = L at *
  go_enter Tryz.func12, Tryz.ntmps12
  go_wp2_with (go_at_call 38; (refine HE.out.mono ?_); rintro e w1 ⟨A, c, rfl, hrd, hb⟩; have HRD := Lib.hid hrd; have HB1 := Lib.hid hb; clear hrd hb)
  go_loopw [6, 7] (fun v f wr => ∃ (k : Nat), f = .int .i64 (k : Int) ∧ k ≤ L.length ∧ OwnPairs w1.heap.size wr v (pairs (L.take (k + 1))) ∧ Below w1.heap.size w1 wr) (fun _ f _ => L.length - (intOf f).toNat)
  case atStart =>
    refine ⟨0, rfl, Nat.zero_le _, ?_, Below.refl _ w1⟩
    have e : pairs (L.take (0 + 1)) = [] := by cases L with
      | nil => rfl
      | cons a l => rfl
    rw [e]
    exact ⟨rfl, .inl ⟨rfl, rfl⟩⟩
  case round =>
    obtain ⟨k, rfl, hk, hown, hB⟩ := hrel
    have HO0 := Lib.hid hown
    have HBB := Lib.hid hB
    by_cases hlt : k + 1 < L.length
    · obtain ⟨x, hx⟩ : ∃ x, L[k]? = some x := ⟨_, List.getElem?_eq_getElem (by omega)⟩
      obtain ⟨y, hy⟩ : ∃ y, L[k + 1]? = some y := ⟨_, List.getElem?_eq_getElem (by omega)⟩
      obtain ⟨g, rfl, x0⟩ := HRD.out k x hx
      obtain ⟨g', e, y0⟩ := HRD.out (k + 1) y hy
      simp only [Option.some.injEq, Addr.mk.injEq, and_true] at e
      subst e
      have X0 := Lib.hid x0
      have Y0 := Lib.hid y0
      have x0 := later_cell hB X0.out
      have y0 := later_cell hB Y0.out
      have hn1 : (pairs (L.take (k + 1))).length + 1 ≤ maxLen := by rw [pairs_length, List.length_take]; unfold maxLen; omega
      have hn2 : ((pairs (L.take (k + 1))).length + 1) * 16 ≤ 140737488355328 := by rw [pairs_length, List.length_take]; omega
      have hBs := hB.size
      have HP := Lib.hid (take_pairs hx hy)
      have hpl : (pairs (L.take (k + 1))).length ≤ 1048577 := by rw [pairs_length, List.length_take]; omega
      clear hx hy hown
      have j0 : (k : Int) < (L.length : Int) := by omega
      have j1 : (k : Int) + 1 < (L.length : Int) := by omega
      have j3 : (0 : Int) ≤ (k : Int) + 1 := by omega
      have j5 : IntKind.i64.wrap ((k : Int) + 1) = (k : Int) + 1 := IntWalk.i64_in _ (by omega)
      have j8 : ((k : Int) + 1).toNat = k + 1 := by omega
      go_wp2
      go_region_held3 (fun w' => w'.cell? ⟨g, k, none⟩ = some (.int .i64 (x : Int)) ∧ w'.cell? ⟨g, k + 1, none⟩ = some (.int .i64 (y : Int)))
        (first | go_keep | exact ⟨later_cell HGB.out.2 X0.out, later_cell HGB.out.2 Y0.out⟩)
        ((refine step_append_lies _ (by rfl) _ _ _ (by rfl) w1.heap.size 46 ii _ 2 16 Tryz.underlying34 hi0 hz0 hz1 hz2 rfl (by omega) u6 _ _ (by rfl) (World.ownsRow.drew (World.ownsRow.alloc HO0.out _))
            ⟨wr.heap.size, 0, none⟩ 1 1 [.int .i64 (x : Int), .int .i64 (y : Int)] (by rfl) (by rfl) (World.news_of_block (cs := #[.int .i64 (x : Int), .int .i64 (y : Int)]) (t := 46) (fr := (0, 0)) (heap_alloc_new wr _)) (by simp [Value.oneCell'])
            (by omega) hn1 hn2 (by simp; omega) (wr.heap.size + 1) (by simp) ?_; intro gg cap w4 hown1 hgrow _ _
          have HGB : Hid (OwnPairs w1.heap.size w4 (.slice (some ⟨gg, 0, none⟩) ((pairs (L.take (k + 1))).length + 1) cap) (pairs (L.take (k + 1 + 1))) ∧ Below w1.heap.size w1 w4) := Lib.hid ⟨by
            rw [HP.out, OwnPairs, flatP_snoc, List.length_append]
            exact hown1, HBB.out.trans (((Below.refl _ wr).alloc HBB.out.size _).drew.grown hgrow (by have := HBB.out.size; simp; omega) (fun k e => (own_block HO0.out e).1))⟩
          clear hown1 hgrow))
      go_wp2
      go_roundw
      case rel =>
        exact ⟨k + 1, by rw [Int.natCast_add]; rfl, by omega, HGB.out.1, HGB.out.2⟩
      case measure => (simp [intOf]; try omega)
    · have j1 : ¬ (k : Int) + 1 < (L.length : Int) := by omega
      have HF : Hid (L.take (k + 1) = L) := Lib.hid (List.take_of_length_le (by omega))
      rw [HF.out] at hown
      have HO1 := Lib.hid hown
      clear hown
      go_wp2
      go_ret
      exact ⟨_, rfl, own_base' HO1.out HB1.out.size, HB1.out.trans (hB.mono HB1.out.size)⟩
theorem edge_mem {D : PD} {l : List UInt8} {at_ : Int} : edgeAt D l at_ = true ↔ ∃ x ∈ edges D l, (x : Int) = at_ := by
  unfold edgeAt edges
  simp only [Bool.and_eq_true, decide_eq_true_eq]
  constructor
  · rintro ⟨⟨⟨h1, h2⟩, h3⟩, h4⟩
    refine ⟨at_.toNat, ?_, by omega⟩
    rw [if_neg h1, List.mem_filter, List.mem_range]
    exact ⟨by omega, h4⟩
  · rintro ⟨x, hx, rfl⟩
    split at hx
    · simp at hx
    · rename_i h1
      rw [List.mem_filter, List.mem_range] at hx
      exact ⟨⟨⟨h1, by omega⟩, by omega⟩, by simpa using hx.2⟩
set_option maxHeartbeats 8000000 in
set_option maxRecDepth 100000 in
theorem REdge_calls (q : Nat) (st : St) (s : ByteArray) (hs : s.size ≤ 1048576) (at_ : Int) (w : World) (H : RefAt q w st) : Calls Tryz.prog 18 #[.pointer (some ⟨q, 0, none⟩), .string s, .int .i64 at_] w fun e w' => e = .returned (.bool (edgeAt st.d s.data.toList at_)) ∧ Below w.heap.size w w' := by
  have hel := edges_len_le st.d s.data.toList
  rw [← Lib.size_eq s] at hel
  have HE : Hid (Calls Tryz.prog 38 #[.pointer (some ⟨q, 0, none⟩), .string s] w fun e w' => ∃ A c, e = .returned (.slice A (edges st.d s.data.toList).length c) ∧ ReadInts w' A (edges st.d s.data.toList) ∧ Below w.heap.size w w') := Lib.hid ((Edges_calls q st s hs w H).mono (by
    rintro e w' ⟨v, rfl, ho, hb⟩
    obtain ⟨A, c, rfl, hr⟩ := ReadInts.own ho
    exact ⟨A, c, rfl, hr, hb⟩))
  have HM := Lib.hid (edge_mem (D := st.d) (l := s.data.toList) (at_ := at_))
  clear H
  generalize edgeAt st.d s.data.toList at_ = EA at *
  generalize edges st.d s.data.toList = L at *
  go_enter Tryz.func18, Tryz.ntmps18
  go_wp2_with (go_at_call 38; (refine HE.out.mono ?_); rintro e w1 ⟨A, c, rfl, hrd, hb⟩; have HRD := Lib.hid hrd; have HB1 := Lib.hid hb; clear hrd hb)
  go_loopw [8] (fun f wr => ∃ (k : Nat), f = .int .i64 (k : Int) ∧ k ≤ L.length ∧ Hid (∀ (i x : Nat), i < k → L[i]? = some x → (x : Int) ≠ at_) ∧ wr = w1) (fun f _ => L.length - (intOf f).toNat)
  case atStart => exact ⟨0, rfl, Nat.zero_le _, Lib.hid (fun i x hi => absurd hi (Nat.not_lt_zero _)), rfl⟩
  case round =>
    obtain ⟨k, rfl, hk, hno, rfl⟩ := hrel
    by_cases hlt : k < L.length
    · obtain ⟨x, hx⟩ : ∃ x, L[k]? = some x := ⟨_, List.getElem?_eq_getElem hlt⟩
      obtain ⟨g, rfl, x0⟩ := HRD.out k x hx
      have HX := Lib.hid hx
      clear hx
      have j0 : (k : Int) < (L.length : Int) := by omega
      by_cases hxa : (x : Int) = at_
      · have j1 : ((x : Int) == at_) = true := beq_iff_eq.2 hxa
        have j2 : EA = true := HM.out.2 ⟨x, List.mem_of_getElem? HX.out, hxa⟩
        subst j2
        clear hxa HX
        go_wp2
        go_ret
        exact ⟨rfl, HB1.out⟩
      · have j1 : ((x : Int) == at_) = false := beq_eq_false_iff_ne.2 hxa
        have HN : Hid (∀ (i y : Nat), i < k + 1 → L[i]? = some y → (y : Int) ≠ at_) := Lib.hid (fun i y hi hy => by
          by_cases e : i = k
          · subst e
            have := HX.out
            rw [hy, Option.some.injEq] at this
            rw [this]; exact hxa
          · exact hno.out i y (by omega) hy)
        clear hxa HX
        go_wp2
        go_roundw
        case rel => exact ⟨k + 1, by rw [Int.natCast_add]; rfl, by omega, HN, trivial⟩
        case measure => (simp [intOf]; try omega)
    · have j0 : ¬ (k : Int) < (L.length : Int) := by omega
      have j2 : EA = false := by
        cases hE : EA with
        | false => rfl
        | true =>
          obtain ⟨x, hx, e⟩ := HM.out.1 hE
          obtain ⟨i, hi⟩ := List.getElem?_of_mem hx
          exact absurd e (hno.out i x (by have := (List.getElem?_eq_some_iff.1 hi).1; omega) hi)
      subst j2
      go_wp2
      go_ret
      exact ⟨rfl, HB1.out⟩
end Go.Proofs.YtfmcadobpgpajaaGreatDoor.Ru
