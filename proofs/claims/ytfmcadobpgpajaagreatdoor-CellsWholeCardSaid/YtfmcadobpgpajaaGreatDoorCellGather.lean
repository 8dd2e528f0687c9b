/- glossarylaw09: gathered, same, turned; cells.Count: the walks. -/
import Derived.Test.YtfmcadobpgpajaaGreatDoorCellIter
import Derived.Maps.AppendAt
import Derived.BigRegion
namespace Go.Proofs.YtfmcadobpgpajaaGreatDoor.Cl
open Go Go.RowKit Go.Shelf Go.Proofs.YtfmcadobpgpajaaGreatDoor.Sp Go.Proofs.YtfmcadobpgpajaaGreatDoor.Ut Go.Proofs.YtfmcadobpgpajaaGreatDoor.Pr Go.Proofs.YtfmcadobpgpajaaGreatDoor.Rf
attribute [local go_sem] Oper.semAt_some
set_option linter.unusedSimpArgs false
set_option linter.unusedVariables false

def flatP (l : List (Nat × Nat)) : List Value := l.flatMap fun x => [.int .i64 (x.1 : Int), .int .i64 (x.2 : Int)]
theorem flatP_snoc (l : List (Nat × Nat)) (x : Nat × Nat) : flatP (l ++ [x]) = flatP l ++ [.int .i64 (x.1 : Int), .int .i64 (x.2 : Int)] := by simp [flatP]
theorem flatP_length (l : List (Nat × Nat)) : (flatP l).length = l.length * 2 := by
  induction l with
  | nil => rfl
  | cons x l ih => simp only [flatP, List.flatMap_cons, List.length_append, List.length_cons, List.length_nil] at ih ⊢; omega
abbrev OwnPairs (n₀ : Nat) (W : World) (v : Value) (l : List (Nat × Nat)) : Prop := W.ownsRow n₀ 46 2 v l.length (flatP l)
theorem infoPairs : (Tryz.prog.info? 46).map (fun i => (i.zero, i.size, i.bytes)) = some (some (.agg #[.int .i64 0, .int .i64 0]), 2, 16) := by kernel_rfl
def PairsOut (L : List (Nat × Nat)) (w : World) (e : Ending) (W' : World) : Prop := ∃ v, e = .returned v ∧ OwnPairs w.heap.size W' v L ∧ Below w.heap.size w W'
/-- What an iterator's value is: a closure that hands on just L. -/
structure Gives (w0 : World) (gf : Nat) (lb : Array Value) (L : List (Nat × Nat)) : Prop where
  enters : ∀ args w, (callFunc gf args).run Tryz.prog w = .ok (.enter gf args) w
  seq : ∀ n, 1 ≤ n → SeqStopsK .wide n Tryz.prog gf lb encP (Below w0.heap.size) (fun ys => ys = L) (fun pre => pre <+: L) L.length w0
set_option maxHeartbeats 4000000 in
set_option maxRecDepth 100000 in
theorem gathered_calls (gf : Nat) (lb : Array Value) (L : List (Nat × Nat)) (hL : L.length ≤ 1048576) (w0 w : World) (hb0 : Below w0.heap.size w0 w) (hG : Gives w0 gf lb L) :
    Calls Tryz.prog 16 #[.func (.func gf) #[] lb] w fun e W' => PairsOut L w e W' := by
  obtain ⟨ii, hi0, hz0, hz1, hz2⟩ := info_parts infoPairs
  refine (callsIn_wide (n := 3)).1 ?_
  refine callsIn_of_wp_marks Tryz.func16 rfl trivial ?_ rfl
  simp only [Tryz.ntmps16, List.size_toArray, List.length_cons, List.length_nil, Nat.reduceAdd, Nat.reduceSub, Array.replicate_succ, Array.replicate_zero, List.push_toArray, List.append_toArray, List.nil_append, List.cons_append]
  gi_wp2
  have hbox := Boxed.new w 34 (.slice none 0 0)
  refine wpIn_rangeFunc_ownF (F := .wide) rfl (by omega) (gf := gf) (lb := lb) rfl trivial hG.enters (hG.seq 2 (by omega)) belowK_t (belowK_b (by have := hb0.size; simp; omega)) (hb0.trans ((Below.refl _ w).alloc hb0.size _)) (fun _ => rfl)
    (fun pre W => (∃ v, Boxed W w.heap.size 34 v ∧ W.ownsRow w.heap.size 46 2 v pre.length (flatP pre) ∧ True) ∧ Below w.heap.size w W)
    (fun _ _ _ => False)
    (OwnFrom.and (Own.from (holdsRow_own w.heap.size w.heap.size 34 46 2 (fun pre => pre.length) flatP (fun _ _ => True)) _) (ownFrom_below (Nat.le_refl _) (by simp)))
    (fun _ _ _ _ _ hs _ _ => hs)
    ⟨⟨_, hbox, ⟨rfl, .inl ⟨rfl, rfl⟩⟩, trivial⟩, (Below.refl _ w).alloc (Nat.le_refl _) _⟩
    (fun x => { tmps := #[.func (.func gf) #[] lb, undef, .slice none 0 0, .pointer (some ⟨w.heap.size, 0, none⟩), .int .i64 (x.1 : Int), .int .i64 (x.2 : Int), .func (.func gf) #[] lb, .int .i64 (x.1 : Int), .int .i64 (x.2 : Int), undef, undef, undef, undef, undef, undef, undef], defers := [] }) ?assign ?body ?done ?stop
  case assign =>
    intro l x W K hK
    gi_wp2
    exact hK
  case body =>
    rintro l pre x W ⟨⟨v, hv, hr, _⟩, hB⟩ hlt
    have hc := hv.cell
    have hlz : pre.length < 1048576 := by omega
    gi_wp2_with (gi_at_builtin; refine wpListIn_append_own _ rfl _ _ 34 rfl w.heap.size 46 ii _ 2 16 Tryz.underlying34 hi0 hz0 hz1 hz2 rfl (by decide) _ _ _ rfl (hr.alloc _) ⟨W.heap.size, 0, none⟩ 1 1 [.int .i64 (x.1 : Int), .int .i64 (x.2 : Int)] rfl rfl (cells_laid W [.int .i64 (x.1 : Int), .int .i64 (x.2 : Int)] rfl (by simp [maxLen])) (by simp [Value.oneCell']) (by unfold maxLen; omega) (by omega) (by have := hB.size; simp; omega) ?_; intro v' w1 hown' hgrow _; obtain ⟨g', cap', rfl⟩ := ownsRow_succ hown'; obtain ⟨hv1, hv2, hr2, hk2, hb2⟩ := hv.appended (by decide) hr hB.size (Nat.le_refl _) hown' hgrow; have hc1 := hv1.cell; have hf1 := hv1.frozen)
    exact ⟨hk2, hb2.mono hb0.size, ⟨_, hv2, by rw [flatP_snoc, List.length_append]; exact hr2, trivial⟩, hB.trans hb2⟩
  case done =>
    rintro D ys W hD rfl ⟨⟨v, hv, hr, _⟩, hB⟩ hK
    have hc := hv.cell
    gi_wp2
    refine ⟨by simp, .inl ⟨_, _, rfl, run_takeDeferred hK, ?_⟩⟩
    exact ⟨_, results_tmp rfl _ _ _, _, rfl, ownsRow_putObj hr _ hK rfl, hB.trans (belowK_b (w := w) (Nat.le_refl _) W D _ _ (by simp at hD; omega) hK rfl rfl)⟩
  case stop =>
    rintro D c pre W _ _ h _
    exact h.elim

/-! ### Count -/
theorem KeepI.set {n₀ zs zp b : Nat} {W : World} (hb : n₀ ≤ b) (h1 : zs ≠ b) (h2 : zp ≠ b) (hs : zs < W.heap.size) (hp : zp < W.heap.size) (v : Value) : KeepI n₀ zs zp W (W.setCell ⟨b, 0, none⟩ v) :=
  ⟨(Below.refl n₀ W).setCell (p := ⟨b, 0, none⟩) hb v, (grownBy_setCell' W b v).block zs hs (fun e => h1 (by cases e; rfl)), (grownBy_setCell' W b v).block zp hp (fun e => h2 (by cases e; rfl))⟩
theorem ownFrom_size {β : Type} (B k : Nat) : OwnFrom B (fun (_ : β) W => k ≤ W.heap.size) := fun _ _ _ _ hs hg _ => Nat.le_trans hs hg.size
set_option maxHeartbeats 4000000 in
set_option maxRecDepth 100000 in
theorem Count_calls (p : Nat) (D : PD) (s : ByteArray) (hs : s.size ≤ 1048576) (w : World) (H : PropsAt w.heap.size w p D) (hU : U8 w) :
    Calls Tryz.prog 19 #[.pointer (some ⟨p, 0, none⟩), .string s] w fun e W' => e = .returned (.int .i64 ((cells D s.data.toList).length : Nat)) ∧ Below w.heap.size w W' := by
  have hlen : (cells D s.data.toList).length ≤ 1048576 := Nat.le_trans (cells_length _ _) (by rw [← Lib.size_eq]; exact hs)
  have hb1 : Below w.heap.size w (w.alloc (.cells #[.int .i64 0] 3)) := (Below.refl _ w).alloc (Nat.le_refl _) _
  have hI := iter_new (p := p) (s := s) w hb1
  have c0 := Boxed.new w 3 (.int .i64 0)
  have hb2 := hI.below
  simp only [iterW, World.size_alloc] at hI hb2
  refine (callsIn_wide (n := 3)).1 ?_
  refine callsIn_of_wp_marks Tryz.func19 rfl trivial ?_ rfl
  simp only [Tryz.ntmps19, List.size_toArray, List.length_cons, List.length_nil, Nat.reduceAdd, Nat.reduceSub, Array.replicate_succ, Array.replicate_zero, List.push_toArray, List.append_toArray, List.nil_append, List.cons_append]
  have HA := Lib.hid (All_calls p s (w.alloc (.cells #[.int .i64 0] 3)))
  gi_wp2_with (refine ⟨trivial, ?_⟩; gi_at_call 13; (refine (callsIn_wide.2 HA.out).mono ?_); rintro e w' ⟨rfl, rfl⟩)
  refine wpIn_rangeFunc_ownF (F := .wide) rfl (by omega) (gf := 39) (lb := #[.pointer (some ⟨w.heap.size + 1 + 1, 0, none⟩), .pointer (some ⟨w.heap.size + 1, 0, none⟩)]) rfl trivial (enters_of Tryz.func39 (by kernel_rfl) rfl)
    (all_stops 2 (by omega) _ _ p D s hs w H hU _ hI) KeepI.trans (fun W l o o' h1 h2 h3 h4 => ⟨belowK_b hb2.size W l o o' h1 h2 h3 h4, (World.putObj_heap_other (by simp at h1; omega)), (World.putObj_heap_other (by simp at h1; omega))⟩) (Below.refl _ _) (fun _ => rfl)
    (fun pre W => Boxed W w.heap.size 3 (.int .i64 (pre.length : Nat)) ∧ (Below w.heap.size w W ∧ w.heap.size + 1 + 1 + 1 ≤ W.heap.size))
    (fun _ _ _ => False)
    (OwnFrom.and (Own.from (boxed_own _ _ _) _) (OwnFrom.and (ownFrom_below (Nat.le_refl _) (by simp; omega)) (ownFrom_size _ _)))
    (fun _ _ _ _ _ hs _ _ => hs)
    ⟨(c0.alloc _).alloc _, hb2, by simp⟩
    (fun x => { tmps := #[.pointer (some ⟨p, 0, none⟩), .string s, undef, undef, .int .i64 0, .pointer (some ⟨w.heap.size, 0, none⟩), .pointer (some ⟨p, 0, none⟩), .string s, .func (.func 39) #[] #[.pointer (some ⟨w.heap.size + 1 + 1, 0, none⟩), .pointer (some ⟨w.heap.size + 1, 0, none⟩)], .int .i64 (x.1 : Int), .int .i64 (x.2 : Int), undef, undef, undef], defers := [] }) ?assign ?body ?done ?stop
  case assign =>
    intro l x W K hK
    gi_wp2
    simp [encP]
    exact hK
  case body =>
    rintro l pre x W ⟨hv, hB, hz⟩ hlt
    have hc := hv.cell
    have hf := hv.frozen
    have hlz : pre.length < 1048576 := by omega
    gi_wp2
    exact ⟨KeepsOthers.setCell _ _ _, KeepI.set (Nat.le_refl _) (by omega) (by omega) (by omega) (by omega) _, by rw [List.length_append, List.length_singleton, Int.natCast_add]; exact hv.set _, hB.setCell (p := ⟨w.heap.size, 0, none⟩) (Nat.le_refl _) _, by simpa using hz⟩
  case done =>
    rintro D' ys W hD rfl ⟨hv, hB, hz⟩ hK
    have hc := hv.cell
    gi_wp2
    refine ⟨by simp, .inl ⟨_, _, rfl, run_takeDeferred hK, ?_⟩⟩
    exact ⟨_, results_tmp rfl _ _ _, rfl, hB.trans (belowK_b (w := w) (Nat.le_refl _) W D' _ _ (by simp at hD; omega) hK rfl rfl)⟩
  case stop =>
    rintro D c pre W _ _ h _
    exact h.elim

/-! ### rows of pairs that can be read -/
structure ReadPairs (W : World) (v : Value) (l : List (Nat × Nat)) : Prop where
  len : l.length ≤ maxLen
  at_ : (l = [] ∧ ∃ A c, v = .slice A 0 c) ∨ ∃ b off c, v = .slice (some ⟨b, off, none⟩) l.length c ∧ ∀ (i : Nat) (x : Nat × Nat), l[i]? = some x → W.cell? ⟨b, off + i * 2, none⟩ = some (.int .i64 (x.1 : Int)) ∧ W.cell? ⟨b, off + i * 2 + 1, none⟩ = some (.int .i64 (x.2 : Int))
theorem flatP_at : ∀ {l : List (Nat × Nat)} {i : Nat} {x : Nat × Nat}, l[i]? = some x → (flatP l)[i * 2]? = some (.int .i64 (x.1 : Int)) ∧ (flatP l)[i * 2 + 1]? = some (.int .i64 (x.2 : Int))
  | [], i, x, h => by simp at h
  | y :: l, 0, x, h => by
    simp only [List.getElem?_cons_zero, Option.some.injEq] at h
    subst h
    exact ⟨rfl, rfl⟩
  | y :: l, i + 1, x, h => by
    simp only [List.getElem?_cons_succ] at h
    have := flatP_at h
    rw [show (i + 1) * 2 = i * 2 + 1 + 1 by omega]
    exact this
theorem ReadPairs.on {W W' : World} {v : Value} {l : List (Nat × Nat)} (h : ReadPairs W v l) (hb : Below W.heap.size W W') : ReadPairs W' v l := by
  refine ⟨h.len, ?_⟩
  rcases h.at_ with h | ⟨b, off, c, e, hc⟩
  · exact .inl h
  · exact .inr ⟨b, off, c, e, fun i x hi => ⟨(hb.cell (World.block_lt_of_cell? _ _ (hc i x hi).1)).trans (hc i x hi).1, (hb.cell (World.block_lt_of_cell? _ _ (hc i x hi).2)).trans (hc i x hi).2⟩⟩
theorem ReadPairs.own {n₀ : Nat} {W : World} {v : Value} {l : List (Nat × Nat)} (h : OwnPairs n₀ W v l) : ReadPairs W v l := by
  have hm : l.length ≤ maxLen := by
    rcases h.2 with ⟨_, h0⟩ | ⟨g, cap, cur, e, _, hg, hn, hc, r⟩
    · rw [h0]; exact Nat.zero_le _
    · exact Nat.le_trans hn hc
  refine ⟨hm, ?_⟩
  cases l with
  | nil =>
    left
    rcases h.2 with ⟨rfl, _⟩ | ⟨g, cap, cur, rfl, _⟩
    · exact ⟨rfl, _, _, rfl⟩
    · exact ⟨rfl, _, _, rfl⟩
  | cons y l =>
    right
    obtain ⟨g, cap, rfl⟩ := ownsRow_succ (k := l.length) h
    refine ⟨g, 0, cap, rfl, fun i x hi => ?_⟩
    obtain ⟨k1, k2⟩ := flatP_at hi
    have a1 := World.ownsRow.cells h (g := g) rfl (i * 2) _ k1
    have a2 := World.ownsRow.cells h (g := g) rfl (i * 2 + 1) _ k2
    rw [show ((⟨g, 0, none⟩ : Addr).add (i * 2)) = ⟨g, 0 + i * 2, none⟩ by (unfold Addr.add; split <;> simp_all)] at a1
    rw [show ((⟨g, 0, none⟩ : Addr).add (i * 2 + 1)) = ⟨g, 0 + i * 2 + 1, none⟩ by (unfold Addr.add; split <;> simp_all <;> omega)] at a2
    exact ⟨a1, a2⟩
theorem ReadPairs.new (W : World) (l : List (Nat × Nat)) (hl : l.length ≤ 1048576) : ReadPairs (W.alloc (.cells (flatP l).toArray 46)) (.slice (some ⟨W.heap.size, 0, none⟩) l.length l.length) l := by
  refine ⟨by unfold maxLen; omega, .inr ⟨W.heap.size, 0, l.length, rfl, fun i x hi => ?_⟩⟩
  obtain ⟨k1, k2⟩ := flatP_at hi
  have hone : ∀ u ∈ flatP l, u.oneCell' = true := by
    intro u hu
    simp only [flatP, List.mem_flatMap, List.mem_cons, List.not_mem_nil, or_false] at hu
    obtain ⟨x, _, rfl | rfl⟩ := hu <;> rfl
  have a1 := cells_laid (e := 46) W (flatP l) rfl (by rw [flatP_length]; unfold maxLen; omega) (i * 2) _ k1
  have a2 := cells_laid (e := 46) W (flatP l) rfl (by rw [flatP_length]; unfold maxLen; omega) (i * 2 + 1) _ k2
  rw [show ((⟨W.heap.size, 0, none⟩ : Addr).add (i * 2)) = ⟨W.heap.size, 0 + i * 2, none⟩ by (unfold Addr.add; split <;> simp_all)] at a1
  rw [show ((⟨W.heap.size, 0, none⟩ : Addr).add (i * 2 + 1)) = ⟨W.heap.size, 0 + i * 2 + 1, none⟩ by (unfold Addr.add; split <;> simp_all <;> omega)] at a2
  exact ⟨a1, a2⟩
end Go.Proofs.YtfmcadobpgpajaaGreatDoor.Cl
