/- slices.Sort at points: a row of a call's own, sorted in place. The arm of no element is turned from a worked walk. -/
import Derived.Test.YtikpkjpnehkbfaaGreatDoorNrBSort
import Derived.Test.YtikpkjpnehkbfaaGreatDoorNrBDecomp
import Derived.Test.YtikpkjpnehkbfaaGreatDoorNrPropsBody
import Derived.Test.YtikpkjpnehkbfaaGreatDoorNrA
import Derived.Test.YtikpkjpnehkbfaaGreatDoorNrBTell
set_option linter.unusedSimpArgs false
namespace Go.Proofs.YtikpkjpnehkbfaaGreatDoor.Pr
open Go Go.RowKit Go.Sort Go.Proofs.YtikpkjpnehkbfaaGreatDoor.Sp Go.Proofs.YtikpkjpnehkbfaaGreatDoor.Mapl Go.Proofs.YtikpkjpnehkbfaaGreatDoor.Rowl
theorem rs_insertion_nil (p : Option Addr) (cap : Nat) (w : World) :
    Calls Tryz.prog 173 #[.slice p 0 cap, .int .i64 0, .int .i64 0] w fun e w' => e = .returned (.tuple #[]) ∧ w' = w := by
  go_enter Tryz.func173, Tryz.ntmps173
  go_wp2
  refine wp_loop_rounds 1 ?_
  rw [rounds_succ]
  go_wp2
  go_end0
  exact ⟨rfl, rfl⟩
set_option maxRecDepth 100000 in
theorem rs_pdq_nil (p : Option Addr) (cap : Nat) (w : World) :
    Calls Tryz.prog 148 #[.slice p 0 cap, .int .i64 0, .int .i64 0, .int .i64 0] w fun e w' => e = .returned (.tuple #[]) ∧ w' = w := by
  go_enter Tryz.func148, Tryz.ntmps148
  go_wp2
  refine wp_loop_rounds 1 ?_
  rw [rounds_succ]
  go_wp2_with (first | (go_at_call 173; refine (rs_insertion_nil p cap _).mono ?_; rintro e w' ⟨rfl, rfl⟩))
  refine bodyPost_ret (results_none rfl _ _ _) rfl ?_
  exact ⟨rfl, rfl⟩
set_option maxRecDepth 100000 in
theorem rs_Sort_nil (p : Option Addr) (cap : Nat) (w : World) :
    Calls Tryz.prog 115 #[.slice p 0 cap] w fun e w' => e = .returned (.tuple #[]) ∧ w' = w := by
  have hLen : ∀ w, Calls Tryz.prog 149 #[.int .u64 0] w fun e w' => e = .returned (.int .i64 0) ∧ w' = w := fun w => Tryz.bits_Len 0 w (by omega) (by omega)
  go_enter Tryz.func115, Tryz.ntmps115
  go_wp2_with (first
    | (go_at_call 149; refine (hLen _).mono ?_; rintro e w' ⟨rfl, rfl⟩)
    | (go_at_call 148; refine (rs_pdq_nil p cap _).mono ?_; rintro e w' ⟨rfl, rfl⟩))
  go_end0
  exact ⟨rfl, rfl⟩
theorem holds_pts {w : World} {g : Nat} {cur : Array Value} {l : List Int} (hb : w.heap[g]? = some (.cells cur 21 (0, 0))) (ht : ∀ (i : Nat) (x : Int), l[i]? = some x → cur[i]? = some (.int .i32 x)) : Holds encR w g 0 l.toArray := by
  intro j hj
  have hjl : j < l.length := by simpa using hj
  have h1 := ht j l[j] (List.getElem?_eq_getElem hjl)
  have h2 := cell_of_row w g j cur _ (0, 0) hb
  refine ⟨?_, by simp [World.frozen?, hb]⟩
  rw [Nat.zero_add, h2, h1]
  simp [List.getElem?_eq_getElem hjl]
theorem sort_sorted : SortSaid := by
  intro n₀ v l w h hl
  obtain ⟨h1, h2⟩ := h
  rcases h2 with ⟨rfl, h2⟩ | ⟨g, cap, cur, rfl, hb, hh, hn, hm, hs, ht⟩
  · have h0 : l = [] := List.eq_nil_of_length_eq_zero (by simpa using h2)
    subst h0
    refine (rs_Sort_nil none 0 w).mono ?_
    rintro e w' ⟨rfl, rfl⟩
    exact ⟨rfl, ⟨by simp [enc], .inl ⟨rfl, by simp⟩⟩, World.grownBy.refl _ _⟩
  · have hcell : ∀ (i : Nat) (x : Int), l[i]? = some x → cur[i]? = some (.int .i32 x) := by
      intro i x hi
      have hi2 : i < l.length := (List.getElem?_eq_some_iff.1 hi).1
      have e : (cur.toList.take (l.length * 1))[i]? = (enc l)[i]? := by rw [ht]
      rw [List.getElem?_take_of_lt (by omega), Array.getElem?_toList] at e
      rw [e]
      unfold enc
      rw [List.getElem?_map, hi]
      rfl
    have hS := rs_Sort g 0 cap l.toArray w (holds_pts hh hcell) (lt_of_block hh) (by simp; omega)
    rw [List.size_toArray] at hS
    refine hS.mono ?_
    rintro e w' ⟨rfl, n, os, rfl⟩
    obtain ⟨ts, hts⟩ : ∃ ts, (l.mergeSort fun x y => decide (x ≤ y)) = ts := ⟨_, rfl⟩
    have hsort : Sort.sort ltInt l.toArray = ts.toArray := by
      apply Array.toList_inj.1
      rw [sortInt l, hts]
    have hlen : ts.length = l.length := by rw [← hts]; exact (List.mergeSort_perm l _).length_eq
    rw [hts, hsort]
    have hg : g < w.heap.size := lt_of_block hh
    have hnew : (grow (putRow encR (Sort.ahead w n) g 0 ts.toArray) os).heap[g]? = some (.cells (putCells encR 0 ts.toArray cur) 21 (0, 0)) := by
      rw [heap_grow_old _ _ (by simpa using hg)]
      simp [putRow, mapBlock, Sort.ahead, Array.getElem?_modify, hh, onCells]
    refine ⟨rfl, ⟨by simp [enc], .inr ⟨g, cap, _, by rw [hlen], hb, hnew, by omega, hm, by simp [putCells, hs], ?_⟩⟩, rfl, rfl, rfl, by simp, fun k hk hne => ?_⟩
    · apply List.ext_getElem?
      intro j
      by_cases hj : j < ts.length
      · have hjc : j < cur.size := by omega
        rw [List.getElem?_take_of_lt (by omega), Array.getElem?_toList]
        simp [putCells, enc, hj, hjc]
      · rw [List.getElem?_take_eq_none (by omega), List.getElem?_eq_none (by simp [enc]; omega)]
    · have hgk : g ≠ k := fun e => hne (by simp only [Value.ownBlock]; rw [e])
      rw [heap_grow_old _ _ (by simpa using hk)]
      simp [putRow, mapBlock, Sort.ahead, Array.getElem?_modify, hgk]
theorem ends_laid {B : Blocks} {cv kv : Value} {n₀ : Nat} {st : St} {line : Int} (hok : StOk st) (hm1 : st.d.classes.length ≤ 1048576) (hm2 : st.d.kinds.length ≤ 1048576) (hl0 : st.lines.length ≤ 1048576) (w : World) (h : StB B cv kv n₀ w st line) :
    Calls Tryz.prog 73 #[.pointer (some ⟨B.x, 0, none⟩)] w fun e w' => EndsOut st e ∧ Below w.heap.size w w' := ends_calls sort_sorted hok hm1 hm2 hl0 w h
end Go.Proofs.YtikpkjpnehkbfaaGreatDoor.Pr
namespace Go.Proofs.YtikpkjpnehkbfaaGreatDoor.Pr
open Go Go.RowKit Go.Shelf Go.Proofs.YtikpkjpnehkbfaaGreatDoor.Sp Go.Proofs.YtikpkjpnehkbfaaGreatDoor.Mapl Go.Proofs.YtikpkjpnehkbfaaGreatDoor.Rowl Go.Proofs.YtikpkjpnehkbfaaGreatDoor.Rz
attribute [local go_sem] Oper.semAt_some
def CountNl (s : ByteArray) (c : Int) : Prop := ∀ W : World, Calls Tryz.prog 63 #[.string s, .string ⟨#[10]⟩] W fun e w' => e = .returned (.int .i64 c) ∧ w' = W
theorem make_pts (w : World) : (Instr.makeMap 89 none).run Tryz.prog w = .ok (.map (some w.heap.size)) (w.alloc (.map #[] 0)) := by kernel_rfl
theorem make_pair (w : World) : (Instr.makeMap 90 none).run Tryz.prog w = .ok (.map (some w.heap.size)) (w.alloc (.map #[] 0)) := by kernel_rfl
theorem make_means (w : World) : (Instr.makeMap 98 none).run Tryz.prog w = .ok (.map (some w.heap.size)) (w.alloc (.map #[] 0)) := by kernel_rfl
def SplitAt (s : ByteArray) : Prop := ∀ W : World, Calls Tryz.prog 68 #[.string s, .string ⟨#[10]⟩] W fun e w' => ∃ zs zp zv, e = .returned (.func (.func 146) #[] #[.pointer (some ⟨zp, 0, none⟩), .pointer (some ⟨zs, 0, none⟩), .pointer (some ⟨zv, 0, none⟩)]) ∧ W.heap.size = zs ∧ zs < zp ∧ zp < zv ∧ zv < w'.heap.size ∧
  Boxed w' zs 9 (.string s) ∧ Boxed w' zp 9 (.string ⟨#[10]⟩) ∧ Boxed w' zv 3 (.int .i64 0) ∧ Below W.heap.size W w'
theorem splitAt (s : ByteArray) : SplitAt s := fun W => (splitSeq_calls s W).mono (by
  rintro e w' ⟨rfl, rfl⟩
  have b1 := ((Boxed.new W 9 (.string s)).alloc (.cells #[.string ⟨#[10]⟩] 9)).alloc (.cells #[.int .i64 0] 3)
  have b2 := (Boxed.new (W.alloc (.cells #[.string s] 9)) 9 (.string ⟨#[10]⟩)).alloc (.cells #[.int .i64 0] 3)
  have b3 := Boxed.new ((W.alloc (.cells #[.string s] 9)).alloc (.cells #[.string ⟨#[10]⟩] 9)) 3 (.int .i64 0)
  simp only [World.size_alloc] at b2 b3
  exact ⟨_, _, _, rfl, rfl, by omega, by omega, by simp, b1, b2, b3, (((Below.refl _ W).alloc (Nat.le_refl _) _).alloc (by simp) _).alloc (by simp; omega) _⟩)
noncomputable def fileOf (s : Bytes) : Except (Int × Option Int) PD :=
  match doLines {} (pieces 10 s) 1 with
  | .error (e, k) => .error (e, some k)
  | .ok st => match badLeast st with
    | some (_, e, k) => .error (e, some k)
    | none => .ok st.d
def ParseOut (n₀ : Nat) (r : Except (Int × Option Int) PD) (e : Ending) (w' : World) : Prop :=
  match r with
  | .error (k, none) => e = .returned (.tuple #[.pointer none, .iface 87 (.int .i64 k)])
  | .error (k, some l) => e = .returned (.tuple #[.pointer none, .iface 111 (.agg #[.int .i64 k, .int .i64 l, .int .i64 0])])
  | .ok D => ∃ p, e = .returned (.tuple #[.pointer (some ⟨p, 0, none⟩), .nilIface]) ∧ n₀ ≤ p ∧ PropsAt w'.heap.size w' p D
def numsAt (w Wd W0 : World) (zs zp zv : Nat) : Nums where
  B := blocksAt w.heap.size
  N := w.heap.size
  z0 := w.heap.size
  z1 := w.heap.size + 1
  zr := w.heap.size + 1 + 1 + 1 + 1 + 1 + 1 + 1 + 1
  zm := Wd.heap.size
  zb := w.heap.size + 9
  zs := zs
  zp := zp
  zv := zv
  M := W0.heap.size
theorem parse_start {w Wd W0 : World} {zs zp zv : Nat} {s : ByteArray} (HG : ((laidWorld w).alloc (.map #[] 0)).grownBy Wd (some (w.heap.size + 9))) (HME : Wd.heap[w.heap.size + 9]? = some (.map (meansOf (w.heap.size + 1 + 1 + 1 + 1 + 1 + 1 + 1)) 4))
    (hz1 : (Wd.alloc (.cells #[.map (some (w.heap.size + 9))] 98)).heap.size = zs) (hz2 : zs < zp) (hz3 : zp < zv) (hz4 : zv < W0.heap.size) (hbs : Boxed W0 zs 9 (.string s)) (hbp : Boxed W0 zp 9 (.string ⟨#[10]⟩)) (hbv : Boxed W0 zv 3 (.int .i64 0))
    (hb0 : Below (Wd.alloc (.cells #[.map (some (w.heap.size + 9))] 98)).heap.size (Wd.alloc (.cells #[.map (some (w.heap.size + 9))] 98)) W0) :
    (numsAt w Wd W0 zs zp zv).Ok ∧ LoopI (numsAt w Wd W0 zs zp zv) w [] W0 := by
  have hsz := laid_size w
  have hs1 := HG.size
  rw [World.size_alloc] at hs1 hz1
  have hL1 : Below (w.heap.size + 9) (laidWorld w) Wd := ((Below.refl _ _).alloc (by omega) _).grown HG (by rw [World.size_alloc]; omega) (fun k e => by injection e with e; omega)
  have hL2 : Below (w.heap.size + 9) (laidWorld w) W0 := (hL1.alloc (by omega) _).trans (hb0.mono (by rw [World.size_alloc]; omega))
  have ok : (numsAt w Wd W0 zs zp zv).Ok := by
    unfold numsAt blocksAt
    constructor <;> simp only <;> omega
  obtain ⟨a0, a1, _, _, _, _, _, _, a8⟩ := laid_at w
  have bm : Boxed W0 Wd.heap.size 98 (.map (some (w.heap.size + 9))) := (hb0.block _ (by simp)).trans (Boxed.new Wd _ _)
  have hmn : W0.heap[w.heap.size + 9]? = some (.map (meansOf (w.heap.size + 1 + 1 + 1 + 1 + 1 + 1 + 1)) 4) := by
    rw [hb0.block _ (by rw [World.size_alloc]; omega), ((Below.refl _ Wd).alloc (Nat.le_refl _) _).block _ (by omega)]
    exact HME
  refine ⟨ok, {}, .slice none 0 0, .slice none 0 0, rfl, (laid_st w).later (by rw [hsz]; exact hL2), (hL2.block w.heap.size (by omega)).trans a0, (hL2.block (w.heap.size + 1) (by omega)).trans a1, ⟨(hL2.block (w.heap.size + 8) (by omega)).trans a8, bm, hmn, hbp, hbv, ⟨_, hbs⟩⟩, (laid_below w).trans (hL2.mono (by omega)), Nat.le_refl _⟩
theorem parse_close {E : Nums} (ok : E.Ok) {w5 : World} {v0 v1 : Value} (b0 : Boxed w5 E.z0 23 v0) (b1 : Boxed w5 E.z1 43 v1) (bs : ∃ v, Boxed w5 E.zs 9 v) {D : Nat} (hD : E.M ≤ D) (hK : w5.heap[D]? = some (.deferred (some []))) (u0 u1 : Value) :
    ((w5.setCell ⟨E.z0, 0, none⟩ u0).setCell ⟨E.z1, 0, none⟩ u1).heap[D]? = some (.deferred (some [])) ∧ (((w5.setCell ⟨E.z0, 0, none⟩ u0).setCell ⟨E.z1, 0, none⟩ u1).putObj D (.deferred none)).cell? ⟨E.z0, 0, none⟩ = some u0 ∧ (((w5.setCell ⟨E.z0, 0, none⟩ u0).setCell ⟨E.z1, 0, none⟩ u1).putObj D (.deferred none)).cell? ⟨E.z1, 0, none⟩ = some u1 ∧
    Below E.N w5 (((w5.setCell ⟨E.z0, 0, none⟩ u0).setCell ⟨E.z1, 0, none⟩ u1).putObj D (.deferred none)) ∧
    ∀ {cv kv : Value} {st : St} {line : Int}, StB E.B cv kv E.N w5 st line → StB E.B cv kv E.N (((w5.setCell ⟨E.z0, 0, none⟩ u0).setCell ⟨E.z1, 0, none⟩ u1).putObj D (.deferred none)) st line := by
  have a0 := ok.z0
  have a01 := ok.z1
  have a1 := ok.b
  have a2 := ok.zr
  have a3 := ok.zb
  have a4 := ok.zm
  have a5 := ok.zs
  have a6 := ok.zp
  have a7 := ok.zv
  have a8 := ok.M
  have a9 := ok.N
  have s1 := setCell_grown w5 ⟨E.z0, 0, none⟩ u0
  have s2 := setCell_grown (w5.setCell ⟨E.z0, 0, none⟩ u0) ⟨E.z1, 0, none⟩ u1
  have s3 := grownBy_putObj' ((w5.setCell ⟨E.z0, 0, none⟩ u0).setCell ⟨E.z1, 0, none⟩ u1) D (.deferred none)
  have ne : ∀ {a b : Nat}, a ≠ b → some a ≠ some b := fun h e => h (Option.some.inj e)
  have k1 : (w5.setCell ⟨E.z0, 0, none⟩ u0).heap[D]? = some (.deferred (some [])) := (s1.block D (lt_of_block hK) (ne (by show D ≠ E.z0; omega))).trans hK
  have k2 : ((w5.setCell ⟨E.z0, 0, none⟩ u0).setCell ⟨E.z1, 0, none⟩ u1).heap[D]? = some (.deferred (some [])) := (s2.block D (lt_of_block k1) (ne (by show D ≠ E.z1; omega))).trans k1
  have c0 := ((b0.set u0).kept s2 (ne (by show E.z0 ≠ E.z1; omega))).kept s3 (ne (by omega))
  have c1' : Boxed (w5.setCell ⟨E.z0, 0, none⟩ u0) E.z1 43 v1 := b1.kept s1 (ne (by show E.z1 ≠ E.z0; omega))
  have c1 := (c1'.set u1).kept s3 (ne (by omega))
  obtain ⟨v, hv⟩ := bs
  have v1' : Boxed (w5.setCell ⟨E.z0, 0, none⟩ u0) E.zs 9 v := hv.kept s1 (ne (by show E.zs ≠ E.z0; omega))
  have v2 : Boxed ((w5.setCell ⟨E.z0, 0, none⟩ u0).setCell ⟨E.z1, 0, none⟩ u1) E.zs 9 v := v1'.kept s2 (ne (by show E.zs ≠ E.z1; omega))
  have hM5 := lt_of_block hv
  refine ⟨k2, c0.cell, c1.cell, ?_, ?_⟩
  · have := b0.lt
    refine (((Below.refl E.N w5).grown s1 (by omega) (fun k e => ?_)).grown s2 (by have := s1.size; omega) (fun k e => ?_)).grown s3 (by have := s1.size; have := s2.size; omega) (fun k e => ?_)
    · have e : E.z0 = k := Option.some.inj e
      omega
    · have e : E.z1 = k := Option.some.inj e
      omega
    · have e : D = k := Option.some.inj e
      omega
  · intro cv kv st line h
    have g1 : StB E.B cv kv E.N (w5.setCell ⟨E.z0, 0, none⟩ u0) st line := h.grown s1 (NoPts.cells (show w5.heap[E.z0]? = some (.cells #[v0] 23 (0, 0)) from b0) (by decide)) (fun k e => by
      have e : E.z0 = k := Option.some.inj e
      subst e
      exact ⟨by omega, by omega, by omega, by omega, by omega, by omega, own_ne h.hc (show w5.heap[E.z0]? = some (.cells #[v0] 23 (0, 0)) from b0) (by simp), own_ne h.hk (show w5.heap[E.z0]? = some (.cells #[v0] 23 (0, 0)) from b0) (by simp)⟩)
    have g2 : StB E.B cv kv E.N ((w5.setCell ⟨E.z0, 0, none⟩ u0).setCell ⟨E.z1, 0, none⟩ u1) st line := g1.grown s2 (NoPts.cells (show (w5.setCell ⟨E.z0, 0, none⟩ u0).heap[E.z1]? = some (.cells #[v1] 43 (0, 0)) from c1') (by decide)) (fun k e => by
      have e : E.z1 = k := Option.some.inj e
      subst e
      exact ⟨by omega, by omega, by omega, by omega, by omega, by omega, own_ne g1.hc (show (w5.setCell ⟨E.z0, 0, none⟩ u0).heap[E.z1]? = some (.cells #[v1] 43 (0, 0)) from c1') (by simp), own_ne g1.hk (show (w5.setCell ⟨E.z0, 0, none⟩ u0).heap[E.z1]? = some (.cells #[v1] 43 (0, 0)) from c1') (by simp)⟩)
    exact g2.step ok ⟨v, v2⟩ s3 (fun r e => by
      have e : D = r := Option.some.inj e
      subst e
      exact .inr ⟨hD, _, k2, rfl⟩)
set_option maxRecDepth 100000 in
set_option maxHeartbeats 16000000 in
theorem parse_main (n : Nat) (hn : 3 ≤ n) (s : ByteArray) (c : Int) (hc : Hid (CountNl s c)) (hc0 : 0 ≤ c) (hc1 : c ≤ 65536) (hs : s.size ≤ 1048576) (hp : 0 < s.size) (hlast : s[s.size - 1] = 10) (hpl : (piecesB s).length ≤ 1048576) {m : Int} {ev : Value} (w : World) (hv : Vars w.heap.size w m ev) :
    CallsIn .wide n Tryz.prog 31 #[.string s] w fun e W' => ParseOut w.heap.size (fileOf s.data.toList) e W' ∧ Below w.heap.size w W' := by
  have hN : ¬ s.toList = [] := by
    intro h
    have : s.size = 0 := by rw [Lib.size_eq, ← Lib.toList_data, h]; rfl
    omega
  have hE : s.toList.isEmpty = false := by cases h : s.toList with
    | nil => exact absurd h hN
    | cons => rfl
  have hL : ((s[s.size - 1].toNat : Int) != 10) = false := by rw [hlast]; rfl
  have hs1 : ¬ 1048576 < (s.size : Int) := by omega
  have hc2 : ¬ 65536 < c := by omega
  have h1 : 1 ≤ n := by omega
  have m1 := make_pts
  have m2 := make_pair
  have m3 := make_known
  have m4 := make_means
  have HV := Lib.hid hv
  clear hv
  have HST := Lib.hid (laid_st w)
  have HLA := Lib.hid (laid_at w)
  have HLB := Lib.hid (laid_below w)
  have hsz9 := laid_size w
  obtain ⟨Wa, Wb, Wc, Wd, u1, u2, u3, u4, hmeans, g1, g2, g3, g4⟩ := means_laid (w.heap.size + 1 + 1 + 1 + 1 + 1 + 1 + 1) (laidWorld w)
  have bR : Boxed (laidWorld w) (w.heap.size + 1 + 1 + 1 + 1 + 1 + 1 + 1 + 1) 88 (.pointer (some ⟨w.heap.size + 1 + 1 + 1 + 1 + 1 + 1 + 1, 0, none⟩)) := HLA.out.2.2.2.2.2.2.2.2
  have b10 := bR.alloc (.map #[] 0)
  rw [hsz9] at u1 u2 u3 u4 hmeans g1 g2 g3 g4
  have hzrb : some (w.heap.size + 1 + 1 + 1 + 1 + 1 + 1 + 1 + 1) ≠ some (w.heap.size + 9) := by simp only [ne_eq, Option.some.injEq]; omega
  have q1 := (b10.kept g1 hzrb).cell
  have q2 := (b10.kept g2 hzrb).cell
  have q3 := (b10.kept g3 hzrb).cell
  have HR4 := Lib.hid (b10.kept g4 hzrb)
  have q4 := HR4.out.cell
  have HSP := Lib.hid (splitAt s)
  have HG := Lib.hid g4
  have HME := Lib.hid hmeans
  clear g1 g2 g3 g4 hmeans bR b10 hzrb
  unfold nClass at u1
  unfold nKind at u2
  unfold nFold at u3
  unfold nDecomp at u4
  unfold laidWorld at u1
  replace u1 : (Instr.mapUpdate 98 (.map (some (w.heap.size + 1 + 1 + 1 + 1 + 1 + 1 + 1 + 1 + 1))) _ _).run Tryz.prog _ = _ := u1
  replace u2 : (Instr.mapUpdate 98 (.map (some (w.heap.size + 1 + 1 + 1 + 1 + 1 + 1 + 1 + 1 + 1))) _ _).run Tryz.prog _ = _ := u2
  replace u3 : (Instr.mapUpdate 98 (.map (some (w.heap.size + 1 + 1 + 1 + 1 + 1 + 1 + 1 + 1 + 1))) _ _).run Tryz.prog _ = _ := u3
  replace u4 : (Instr.mapUpdate 98 (.map (some (w.heap.size + 1 + 1 + 1 + 1 + 1 + 1 + 1 + 1 + 1))) _ _).run Tryz.prog _ = _ := u4
  refine callsIn_of_wp_marks Tryz.func31 rfl trivial ?_ rfl
  simp only [Tryz.ntmps31, List.size_toArray, List.length_cons, List.length_nil, Nat.reduceAdd, Nat.reduceSub, Array.replicate_succ, Array.replicate_zero, List.push_toArray, List.append_toArray, List.nil_append, List.cons_append]
  gi_wp2_with (first | (refine ⟨trivial, ?_⟩; gi_at_call 63; refine (callsIn_wide.2 (hc.out _)).mono ?_; rintro e w' ⟨rfl, hw⟩; subst w') | (refine ⟨trivial, ?_⟩; gi_at_call 68; refine (callsIn_wide.2 (HSP.out _)).mono ?_; rintro e W0 ⟨zs, zp, zv, rfl, hz1, hz2, hz3, hz4, hbs, hbp, hbv, hb0⟩))
  obtain ⟨ok, hI0⟩ := parse_start HG.out HME.out hz1 hz2 hz3 hz4 hbs hbp hbv hb0
  clear q1 q2 q3 q4 u1 u2 u3 u4 m1 m2 m3 m4
  have OK := Lib.hid ok
  refine wpIn_rangeZ rfl h1 (gf := 146) (lb := #[.pointer (some ⟨zp, 0, none⟩), .pointer (some ⟨zs, 0, none⟩), .pointer (some ⟨zv, 0, none⟩)]) rfl trivial (enters_of Tryz.func146 (by kernel_rfl) rfl)
    (split_stops (n - 1) (by omega) zs zp zv s hs W0 ⟨by omega, by omega⟩ hbs hbp hbv) (by omega) (fun h h' => h.trans h') (fun W l o o' hl _ _ _ => Keep3.turn W l o' (by omega) (by omega) (by omega)) (Below.refl _ _) (fun _ => rfl)
    (LoopI (numsAt w Wd W0 zs zp zv) w) (LoopX (numsAt w Wd W0 zs zp zv) w) (LoopI.own ok w) (LoopX.own ok w) hI0 ?a1 ?assign ?body ?done ?stop
  case assign =>
    rintro l x W K hK
    gi_wp2
    exact hK
  case body =>
    rintro l pre x W hl hI hlt hxs
    have hln1 : pre.length ≤ 1048576 := by omega
    exact parse_body (numsAt w Wd W0 zs zp zv) OK.out n hn l w HV.out rfl pre x W hI hln1 (by omega) _ rfl _ _ _ _ _ _ _ _ _ _ _ _ _ _ _ _ _ _ _ _ _ _ _ _ _ _ _ _ _ _ _ _ _ _ _ _ _ _ _ _ _ _ _ _ _ _ _ _ _ _ _ _ _ _ _ _ _ _ _ _ _ _ _ _ _ _ _ _ _ _ _ _ _ _ _ _ _ _ _ _ _ _ _ _ _ _ _ _ _ _ _ _ _ _ _ _ _ _ _ _ _ _ _ _ _ _ _ _
  case done =>
    rintro D xs W hD rfl ⟨st, cv, kv, i1, i2, i3, i4, i5, i6, i7⟩ hK
    have hok := doLines_ok StOk.empty i1
    have hcnt := doLines_count _ _ _ _ i1
    rw [wl_length] at hcnt
    have hm1 : st.d.classes.length ≤ 1048576 := Nat.le_trans hcnt.1 (by show 0 + _ ≤ _; omega)
    have hm2 : st.d.kinds.length ≤ 1048576 := Nat.le_trans hcnt.2.1 (by show 0 + _ ≤ _; omega)
    have hm3 : st.lines.length ≤ 1048576 := Nat.le_trans hcnt.2.2 (by show 0 + _ ≤ _; omega)
    have hE := Lib.hid (ends_laid hok hm1 hm2 hm3 W i2)
    have cR : W.cell? ⟨w.heap.size + 1 + 1 + 1 + 1 + 1 + 1 + 1 + 1, 0, none⟩ = some (.pointer (some ⟨w.heap.size + 1 + 1 + 1 + 1 + 1 + 1 + 1, 0, none⟩)) := i5.r.cell
    have HI2 := Lib.hid i2
    have HI1 := Lib.hid i1
    have HI5 := Lib.hid i5
    have HI3 := Lib.hid i3
    have HI4 := Lib.hid i4
    have HI6 := Lib.hid i6
    have HOK := Lib.hid hok
    clear i1 i2 i3 i4 i5 i6 hcnt
    have e1 : pieces 10 s.data.toList = wl (piecesB s) := (wl_pieces s).symm
    gi_wp2_with fail
    refine ⟨trivial, ?_⟩
    refine (callsIn_wide.2 hE.out).mono ?_
    rintro e w5 ⟨hEO, hb5⟩
    have hS5 := HI2.out.later hb5
    obtain ⟨vs, hvs⟩ := HI5.out.s
    have bR : Boxed w5 (w.heap.size + 1 + 1 + 1 + 1 + 1 + 1 + 1 + 1) 88 (.pointer (some ⟨w.heap.size + 1 + 1 + 1 + 1 + 1 + 1 + 1, 0, none⟩)) := (hb5.block _ HI5.out.r.lt).trans HI5.out.r
    have b0 : Boxed w5 w.heap.size 23 (.pointer none) := (hb5.block _ HI3.out.lt).trans HI3.out
    have b1 : Boxed w5 (w.heap.size + 1) 43 .nilIface := (hb5.block _ HI4.out.lt).trans HI4.out
    have bs : ∃ v, Boxed w5 zs 9 v := ⟨vs, (hb5.block _ hvs.lt).trans hvs⟩
    have hK5 : w5.heap[D]? = some (.deferred (some [])) := (hb5.block D (lt_of_block hK)).trans hK
    have hX5 : w5.heap[w.heap.size + 1 + 1 + 1 + 1 + 1 + 1 + 1]? = some (.cells #[.pointer (some ⟨w.heap.size + 1 + 1 + 1 + 1 + 1, 0, none⟩), .map (some (blocksAt w.heap.size).l), .int .i64 (piecesB s).length] 96 (0, 0)) := hS5.hx
    have r0 := bR.cell
    have r1 := b0.cell
    have r2 := b1.cell
    have g1 := b0.frozen
    have g2 := b1.frozen
    have r3 : w5.cell? ⟨w.heap.size + 1 + 1 + 1 + 1 + 1 + 1 + 1, 0, none⟩ = some (.pointer (some ⟨w.heap.size + 1 + 1 + 1 + 1 + 1, 0, none⟩)) := by rw [cell_of_row w5 _ 0 _ _ (0, 0) hX5]; rfl
    have HB6 : Hid (Below w.heap.size w w5) := Lib.hid ((show Below w.heap.size w W from HI6.out).trans (hb5.mono HI6.out.size))
    rcases hEO with ⟨rfl, hall⟩ | ⟨p, hp, no, hbad, hleast, rfl⟩
    · have HBL := Lib.hid (badLeast_none hall)
      have hcl := parse_close OK.out b0 b1 bs hD hK5 (.pointer (some ⟨w.heap.size + 1 + 1 + 1 + 1 + 1, 0, none⟩)) .nilIface
      dsimp only [numsAt] at hcl
      have HC := Lib.hid hcl
      have HS5 := Lib.hid hS5
      clear hcl hall b0 b1 bs hS5 hX5 bR hb5 hvs
      gi_wp2
      obtain ⟨k2, c0, c1, hbe, hst⟩ := HC.out
      refine ⟨by simp, .inl ⟨_, _, rfl, run_takeDeferred k2, ?_⟩⟩
      refine ⟨.tuple #[.pointer (some ⟨w.heap.size + 1 + 1 + 1 + 1 + 1, 0, none⟩), .nilIface], ?_, ?_, HB6.out.trans hbe⟩
      · simp [results, Tryz.f31, go_sem, c0, c1]
      · unfold fileOf
        rw [e1, HI1.out]
        simp only [HBL.out]
        exact ⟨_, rfl, by omega, (hst HS5.out).props HOK.out hm1 hm2⟩
    · have HBL := Lib.hid (badLeast_one (by rw [HOK.out.keys]; exact HOK.out.nodup) hp hbad hleast)
      have hcl := parse_close OK.out b0 b1 bs hD hK5 (.pointer none) (.iface 111 (.agg #[.int .i64 no, .int .i64 p.2, .int .i64 0]))
      dsimp only [numsAt] at hcl
      have HC := Lib.hid hcl
      clear hcl hbad hleast b0 b1 bs hS5 hX5 bR hb5 hvs
      gi_wp2
      obtain ⟨k2, c0, c1, hbe, _⟩ := HC.out
      refine ⟨by simp, .inl ⟨_, _, rfl, run_takeDeferred k2, ?_⟩⟩
      refine ⟨.tuple #[.pointer none, .iface 111 (.agg #[.int .i64 no, .int .i64 p.2, .int .i64 0])], ?_, ?_, HB6.out.trans hbe⟩
      · simp [results, Tryz.f31, go_sem, c0, c1]
      · unfold fileOf
        rw [e1, HI1.out]
        simp only [HBL.out]
        rfl
  case stop =>
    rintro D pre W hD ⟨k, hk, rfl⟩ ⟨e, ln, i1, i3, i4, i6, i7⟩ hK
    have HI3 := Lib.hid i3
    have HI4 := Lib.hid i4
    have HI6 := Lib.hid i6
    have HI1 := Lib.hid i1
    clear i1 i3 i4 i6
    have e1 : pieces 10 s.data.toList = wl (piecesB s) := (wl_pieces s).symm
    gi_wp2
    refine ⟨by simp, .inl ⟨_, _, rfl, run_takeDeferred hK, ?_⟩⟩
    have c0 := cell_kept HI3.out.cell (grownBy_putObj' _ D (.deferred none)) (fun r e => by cases e; exact ⟨_, hK, rfl⟩)
    have c1 := cell_kept HI4.out.cell (grownBy_putObj' _ D (.deferred none)) (fun r e => by cases e; exact ⟨_, hK, rfl⟩)
    replace c0 : (W.putObj D (.deferred none)).cell? ⟨w.heap.size, 0, none⟩ = some (.pointer none) := c0
    replace c1 : (W.putObj D (.deferred none)).cell? ⟨w.heap.size + 1, 0, none⟩ = some (.iface 111 (.agg #[.int .i64 e, .int .i64 ln, .int .i64 0])) := c1
    have hNW : w.heap.size ≤ W.heap.size := HI6.out.size
    have k1 : w.heap.size + 9 < Wd.heap.size := OK.out.zm
    have k2 : Wd.heap.size < zs := OK.out.zs
    refine ⟨.tuple #[.pointer none, .iface 111 (.agg #[.int .i64 e, .int .i64 ln, .int .i64 0])], ?_, ?_, (show Below w.heap.size w W from HI6.out).grown (grownBy_putObj' _ D _) hNW (fun k e => by have e : D = k := Option.some.inj e; omega)⟩
    · simp [results, Tryz.f31, go_sem, c0, c1]
    · unfold fileOf
      rw [e1, doLines_stop HI1.out k rfl]
      rfl
end Go.Proofs.YtikpkjpnehkbfaaGreatDoor.Pr
namespace Go.Proofs.YtikpkjpnehkbfaaGreatDoor.Pr
open Go Go.RowKit Go.Shelf Go.Proofs.YtikpkjpnehkbfaaGreatDoor.Sp Go.Proofs.YtikpkjpnehkbfaaGreatDoor.Mapl Go.Proofs.YtikpkjpnehkbfaaGreatDoor.Rowl Go.Proofs.YtikpkjpnehkbfaaGreatDoor.Rz
attribute [local go_sem] Oper.semAt_some
set_option maxRecDepth 100000 in
set_option maxHeartbeats 16000000 in
theorem parse_open (n : Nat) (hn : 3 ≤ n) (s : ByteArray) (c : Int) (hc : Hid (CountNl s c)) (hc0 : 0 ≤ c) (hc1 : c < 65536) (hs : s.size ≤ 1048576) (hp : 0 < s.size) (hlast : s[s.size - 1] ≠ 10) (hpl : (piecesB s).length ≤ 1048576) {m : Int} {ev : Value} (w : World) (hv : Vars w.heap.size w m ev) :
    CallsIn .wide n Tryz.prog 31 #[.string s] w fun e W' => ParseOut w.heap.size (fileOf s.data.toList) e W' ∧ Below w.heap.size w W' := by
  have hN : ¬ s.toList = [] := by
    intro h
    have : s.size = 0 := by rw [Lib.size_eq, ← Lib.toList_data, h]; rfl
    omega
  have hE : s.toList.isEmpty = false := by cases h : s.toList with
    | nil => exact absurd h hN
    | cons => rfl
  have hL : ((s[s.size - 1].toNat : Int) != 10) = true := by
    rw [bne_iff_ne]
    intro h
    refine hlast (UInt8.toNat_inj.1 ?_)
    show s[s.size - 1].toNat = 10
    omega
  have hs1 : ¬ 1048576 < (s.size : Int) := by omega
  have hc2 : ¬ 65536 < c + 1 := by omega
  have h1 : 1 ≤ n := by omega
  have m1 := make_pts
  have m2 := make_pair
  have m3 := make_known
  have m4 := make_means
  have HV := Lib.hid hv
  clear hv
  have HST := Lib.hid (laid_st w)
  have HLA := Lib.hid (laid_at w)
  have HLB := Lib.hid (laid_below w)
  have hsz9 := laid_size w
  obtain ⟨Wa, Wb, Wc, Wd, u1, u2, u3, u4, hmeans, g1, g2, g3, g4⟩ := means_laid (w.heap.size + 1 + 1 + 1 + 1 + 1 + 1 + 1) (laidWorld w)
  have bR : Boxed (laidWorld w) (w.heap.size + 1 + 1 + 1 + 1 + 1 + 1 + 1 + 1) 88 (.pointer (some ⟨w.heap.size + 1 + 1 + 1 + 1 + 1 + 1 + 1, 0, none⟩)) := HLA.out.2.2.2.2.2.2.2.2
  have b10 := bR.alloc (.map #[] 0)
  rw [hsz9] at u1 u2 u3 u4 hmeans g1 g2 g3 g4
  have hzrb : some (w.heap.size + 1 + 1 + 1 + 1 + 1 + 1 + 1 + 1) ≠ some (w.heap.size + 9) := by simp only [ne_eq, Option.some.injEq]; omega
  have q1 := (b10.kept g1 hzrb).cell
  have q2 := (b10.kept g2 hzrb).cell
  have q3 := (b10.kept g3 hzrb).cell
  have HR4 := Lib.hid (b10.kept g4 hzrb)
  have q4 := HR4.out.cell
  have HSP := Lib.hid (splitAt s)
  have HG := Lib.hid g4
  have HME := Lib.hid hmeans
  clear g1 g2 g3 g4 hmeans bR b10 hzrb
  unfold nClass at u1
  unfold nKind at u2
  unfold nFold at u3
  unfold nDecomp at u4
  unfold laidWorld at u1
  replace u1 : (Instr.mapUpdate 98 (.map (some (w.heap.size + 1 + 1 + 1 + 1 + 1 + 1 + 1 + 1 + 1))) _ _).run Tryz.prog _ = _ := u1
  replace u2 : (Instr.mapUpdate 98 (.map (some (w.heap.size + 1 + 1 + 1 + 1 + 1 + 1 + 1 + 1 + 1))) _ _).run Tryz.prog _ = _ := u2
  replace u3 : (Instr.mapUpdate 98 (.map (some (w.heap.size + 1 + 1 + 1 + 1 + 1 + 1 + 1 + 1 + 1))) _ _).run Tryz.prog _ = _ := u3
  replace u4 : (Instr.mapUpdate 98 (.map (some (w.heap.size + 1 + 1 + 1 + 1 + 1 + 1 + 1 + 1 + 1))) _ _).run Tryz.prog _ = _ := u4
  refine callsIn_of_wp_marks Tryz.func31 rfl trivial ?_ rfl
  simp only [Tryz.ntmps31, List.size_toArray, List.length_cons, List.length_nil, Nat.reduceAdd, Nat.reduceSub, Array.replicate_succ, Array.replicate_zero, List.push_toArray, List.append_toArray, List.nil_append, List.cons_append]
  gi_wp2_with (first | (refine ⟨trivial, ?_⟩; gi_at_call 63; refine (callsIn_wide.2 (hc.out _)).mono ?_; rintro e w' ⟨rfl, hw⟩; subst w') | (refine ⟨trivial, ?_⟩; gi_at_call 68; refine (callsIn_wide.2 (HSP.out _)).mono ?_; rintro e W0 ⟨zs, zp, zv, rfl, hz1, hz2, hz3, hz4, hbs, hbp, hbv, hb0⟩))
  obtain ⟨ok, hI0⟩ := parse_start HG.out HME.out hz1 hz2 hz3 hz4 hbs hbp hbv hb0
  clear q1 q2 q3 q4 u1 u2 u3 u4 m1 m2 m3 m4
  have OK := Lib.hid ok
  refine wpIn_rangeZ rfl h1 (gf := 146) (lb := #[.pointer (some ⟨zp, 0, none⟩), .pointer (some ⟨zs, 0, none⟩), .pointer (some ⟨zv, 0, none⟩)]) rfl trivial (enters_of Tryz.func146 (by kernel_rfl) rfl)
    (split_stops (n - 1) (by omega) zs zp zv s hs W0 ⟨by omega, by omega⟩ hbs hbp hbv) (by omega) (fun h h' => h.trans h') (fun W l o o' hl _ _ _ => Keep3.turn W l o' (by omega) (by omega) (by omega)) (Below.refl _ _) (fun _ => rfl)
    (LoopI (numsAt w Wd W0 zs zp zv) w) (LoopX (numsAt w Wd W0 zs zp zv) w) (LoopI.own ok w) (LoopX.own ok w) hI0 ?a1 ?assign ?body ?done ?stop
  case assign =>
    rintro l x W K hK
    gi_wp2
    exact hK
  case body =>
    rintro l pre x W hl hI hlt hxs
    have hln1 : pre.length ≤ 1048576 := by omega
    exact parse_body (numsAt w Wd W0 zs zp zv) OK.out n hn l w HV.out rfl pre x W hI hln1 (by omega) _ rfl _ _ _ _ _ _ _ _ _ _ _ _ _ _ _ _ _ _ _ _ _ _ _ _ _ _ _ _ _ _ _ _ _ _ _ _ _ _ _ _ _ _ _ _ _ _ _ _ _ _ _ _ _ _ _ _ _ _ _ _ _ _ _ _ _ _ _ _ _ _ _ _ _ _ _ _ _ _ _ _ _ _ _ _ _ _ _ _ _ _ _ _ _ _ _ _ _ _ _ _ _ _ _ _ _ _ _ _
  case done =>
    rintro D xs W hD rfl ⟨st, cv, kv, i1, i2, i3, i4, i5, i6, i7⟩ hK
    have hok := doLines_ok StOk.empty i1
    have hcnt := doLines_count _ _ _ _ i1
    rw [wl_length] at hcnt
    have hm1 : st.d.classes.length ≤ 1048576 := Nat.le_trans hcnt.1 (by show 0 + _ ≤ _; omega)
    have hm2 : st.d.kinds.length ≤ 1048576 := Nat.le_trans hcnt.2.1 (by show 0 + _ ≤ _; omega)
    have hm3 : st.lines.length ≤ 1048576 := Nat.le_trans hcnt.2.2 (by show 0 + _ ≤ _; omega)
    have hE := Lib.hid (ends_laid hok hm1 hm2 hm3 W i2)
    have cR : W.cell? ⟨w.heap.size + 1 + 1 + 1 + 1 + 1 + 1 + 1 + 1, 0, none⟩ = some (.pointer (some ⟨w.heap.size + 1 + 1 + 1 + 1 + 1 + 1 + 1, 0, none⟩)) := i5.r.cell
    have HI2 := Lib.hid i2
    have HI1 := Lib.hid i1
    have HI5 := Lib.hid i5
    have HI3 := Lib.hid i3
    have HI4 := Lib.hid i4
    have HI6 := Lib.hid i6
    have HOK := Lib.hid hok
    clear i1 i2 i3 i4 i5 i6 hcnt
    have e1 : pieces 10 s.data.toList = wl (piecesB s) := (wl_pieces s).symm
    gi_wp2_with fail
    refine ⟨trivial, ?_⟩
    refine (callsIn_wide.2 hE.out).mono ?_
    rintro e w5 ⟨hEO, hb5⟩
    have hS5 := HI2.out.later hb5
    obtain ⟨vs, hvs⟩ := HI5.out.s
    have bR : Boxed w5 (w.heap.size + 1 + 1 + 1 + 1 + 1 + 1 + 1 + 1) 88 (.pointer (some ⟨w.heap.size + 1 + 1 + 1 + 1 + 1 + 1 + 1, 0, none⟩)) := (hb5.block _ HI5.out.r.lt).trans HI5.out.r
    have b0 : Boxed w5 w.heap.size 23 (.pointer none) := (hb5.block _ HI3.out.lt).trans HI3.out
    have b1 : Boxed w5 (w.heap.size + 1) 43 .nilIface := (hb5.block _ HI4.out.lt).trans HI4.out
    have bs : ∃ v, Boxed w5 zs 9 v := ⟨vs, (hb5.block _ hvs.lt).trans hvs⟩
    have hK5 : w5.heap[D]? = some (.deferred (some [])) := (hb5.block D (lt_of_block hK)).trans hK
    have hX5 : w5.heap[w.heap.size + 1 + 1 + 1 + 1 + 1 + 1 + 1]? = some (.cells #[.pointer (some ⟨w.heap.size + 1 + 1 + 1 + 1 + 1, 0, none⟩), .map (some (blocksAt w.heap.size).l), .int .i64 (piecesB s).length] 96 (0, 0)) := hS5.hx
    have r0 := bR.cell
    have r1 := b0.cell
    have r2 := b1.cell
    have g1 := b0.frozen
    have g2 := b1.frozen
    have r3 : w5.cell? ⟨w.heap.size + 1 + 1 + 1 + 1 + 1 + 1 + 1, 0, none⟩ = some (.pointer (some ⟨w.heap.size + 1 + 1 + 1 + 1 + 1, 0, none⟩)) := by rw [cell_of_row w5 _ 0 _ _ (0, 0) hX5]; rfl
    have HB6 : Hid (Below w.heap.size w w5) := Lib.hid ((show Below w.heap.size w W from HI6.out).trans (hb5.mono HI6.out.size))
    rcases hEO with ⟨rfl, hall⟩ | ⟨p, hp, no, hbad, hleast, rfl⟩
    · have HBL := Lib.hid (badLeast_none hall)
      have hcl := parse_close OK.out b0 b1 bs hD hK5 (.pointer (some ⟨w.heap.size + 1 + 1 + 1 + 1 + 1, 0, none⟩)) .nilIface
      dsimp only [numsAt] at hcl
      have HC := Lib.hid hcl
      have HS5 := Lib.hid hS5
      clear hcl hall b0 b1 bs hS5 hX5 bR hb5 hvs
      gi_wp2
      obtain ⟨k2, c0, c1, hbe, hst⟩ := HC.out
      refine ⟨by simp, .inl ⟨_, _, rfl, run_takeDeferred k2, ?_⟩⟩
      refine ⟨.tuple #[.pointer (some ⟨w.heap.size + 1 + 1 + 1 + 1 + 1, 0, none⟩), .nilIface], ?_, ?_, HB6.out.trans hbe⟩
      · simp [results, Tryz.f31, go_sem, c0, c1]
      · unfold fileOf
        rw [e1, HI1.out]
        simp only [HBL.out]
        exact ⟨_, rfl, by omega, (hst HS5.out).props HOK.out hm1 hm2⟩
    · have HBL := Lib.hid (badLeast_one (by rw [HOK.out.keys]; exact HOK.out.nodup) hp hbad hleast)
      have hcl := parse_close OK.out b0 b1 bs hD hK5 (.pointer none) (.iface 111 (.agg #[.int .i64 no, .int .i64 p.2, .int .i64 0]))
      dsimp only [numsAt] at hcl
      have HC := Lib.hid hcl
      clear hcl hbad hleast b0 b1 bs hS5 hX5 bR hb5 hvs
      gi_wp2
      obtain ⟨k2, c0, c1, hbe, _⟩ := HC.out
      refine ⟨by simp, .inl ⟨_, _, rfl, run_takeDeferred k2, ?_⟩⟩
      refine ⟨.tuple #[.pointer none, .iface 111 (.agg #[.int .i64 no, .int .i64 p.2, .int .i64 0])], ?_, ?_, HB6.out.trans hbe⟩
      · simp [results, Tryz.f31, go_sem, c0, c1]
      · unfold fileOf
        rw [e1, HI1.out]
        simp only [HBL.out]
        rfl
  case stop =>
    rintro D pre W hD ⟨k, hk, rfl⟩ ⟨e, ln, i1, i3, i4, i6, i7⟩ hK
    have HI3 := Lib.hid i3
    have HI4 := Lib.hid i4
    have HI6 := Lib.hid i6
    have HI1 := Lib.hid i1
    clear i1 i3 i4 i6
    have e1 : pieces 10 s.data.toList = wl (piecesB s) := (wl_pieces s).symm
    gi_wp2
    refine ⟨by simp, .inl ⟨_, _, rfl, run_takeDeferred hK, ?_⟩⟩
    have c0 := cell_kept HI3.out.cell (grownBy_putObj' _ D (.deferred none)) (fun r e => by cases e; exact ⟨_, hK, rfl⟩)
    have c1 := cell_kept HI4.out.cell (grownBy_putObj' _ D (.deferred none)) (fun r e => by cases e; exact ⟨_, hK, rfl⟩)
    replace c0 : (W.putObj D (.deferred none)).cell? ⟨w.heap.size, 0, none⟩ = some (.pointer none) := c0
    replace c1 : (W.putObj D (.deferred none)).cell? ⟨w.heap.size + 1, 0, none⟩ = some (.iface 111 (.agg #[.int .i64 e, .int .i64 ln, .int .i64 0])) := c1
    have hNW : w.heap.size ≤ W.heap.size := HI6.out.size
    have k1 : w.heap.size + 9 < Wd.heap.size := OK.out.zm
    have k2 : Wd.heap.size < zs := OK.out.zs
    refine ⟨.tuple #[.pointer none, .iface 111 (.agg #[.int .i64 e, .int .i64 ln, .int .i64 0])], ?_, ?_, (show Below w.heap.size w W from HI6.out).grown (grownBy_putObj' _ D _) hNW (fun k e => by have e : D = k := Option.some.inj e; omega)⟩
    · simp [results, Tryz.f31, go_sem, c0, c1]
    · unfold fileOf
      rw [e1, doLines_stop HI1.out k rfl]
      rfl
set_option maxRecDepth 100000 in
set_option maxHeartbeats 16000000 in
theorem parse_nought (n : Nat) (hn : 3 ≤ n) (s : ByteArray) (c : Int) (hc : Hid (CountNl s c)) (hc0 : 0 ≤ c) (hc1 : c ≤ 65536) (hs : s.size ≤ 1048576) (hp : s.size = 0) (hpl : (piecesB s).length ≤ 1048576) {m : Int} {ev : Value} (w : World) (hv : Vars w.heap.size w m ev) :
    CallsIn .wide n Tryz.prog 31 #[.string s] w fun e W' => ParseOut w.heap.size (fileOf s.data.toList) e W' ∧ Below w.heap.size w W' := by
  have hN : s.toList = [] := by
    rw [Lib.toList_data]
    exact List.eq_nil_of_length_eq_zero (by rw [← Lib.size_eq]; exact hp)
  have hE : s.toList.isEmpty = true := by rw [hN]; rfl
  have hs1 : ¬ 1048576 < (s.size : Int) := by omega
  have hc2 : ¬ 65536 < c := by omega
  have h1 : 1 ≤ n := by omega
  have m1 := make_pts
  have m2 := make_pair
  have m3 := make_known
  have m4 := make_means
  have HV := Lib.hid hv
  clear hv
  have HST := Lib.hid (laid_st w)
  have HLA := Lib.hid (laid_at w)
  have HLB := Lib.hid (laid_below w)
  have hsz9 := laid_size w
  obtain ⟨Wa, Wb, Wc, Wd, u1, u2, u3, u4, hmeans, g1, g2, g3, g4⟩ := means_laid (w.heap.size + 1 + 1 + 1 + 1 + 1 + 1 + 1) (laidWorld w)
  have bR : Boxed (laidWorld w) (w.heap.size + 1 + 1 + 1 + 1 + 1 + 1 + 1 + 1) 88 (.pointer (some ⟨w.heap.size + 1 + 1 + 1 + 1 + 1 + 1 + 1, 0, none⟩)) := HLA.out.2.2.2.2.2.2.2.2
  have b10 := bR.alloc (.map #[] 0)
  rw [hsz9] at u1 u2 u3 u4 hmeans g1 g2 g3 g4
  have hzrb : some (w.heap.size + 1 + 1 + 1 + 1 + 1 + 1 + 1 + 1) ≠ some (w.heap.size + 9) := by simp only [ne_eq, Option.some.injEq]; omega
  have q1 := (b10.kept g1 hzrb).cell
  have q2 := (b10.kept g2 hzrb).cell
  have q3 := (b10.kept g3 hzrb).cell
  have HR4 := Lib.hid (b10.kept g4 hzrb)
  have q4 := HR4.out.cell
  have HSP := Lib.hid (splitAt s)
  have HG := Lib.hid g4
  have HME := Lib.hid hmeans
  clear g1 g2 g3 g4 hmeans bR b10 hzrb
  unfold nClass at u1
  unfold nKind at u2
  unfold nFold at u3
  unfold nDecomp at u4
  unfold laidWorld at u1
  replace u1 : (Instr.mapUpdate 98 (.map (some (w.heap.size + 1 + 1 + 1 + 1 + 1 + 1 + 1 + 1 + 1))) _ _).run Tryz.prog _ = _ := u1
  replace u2 : (Instr.mapUpdate 98 (.map (some (w.heap.size + 1 + 1 + 1 + 1 + 1 + 1 + 1 + 1 + 1))) _ _).run Tryz.prog _ = _ := u2
  replace u3 : (Instr.mapUpdate 98 (.map (some (w.heap.size + 1 + 1 + 1 + 1 + 1 + 1 + 1 + 1 + 1))) _ _).run Tryz.prog _ = _ := u3
  replace u4 : (Instr.mapUpdate 98 (.map (some (w.heap.size + 1 + 1 + 1 + 1 + 1 + 1 + 1 + 1 + 1))) _ _).run Tryz.prog _ = _ := u4
  refine callsIn_of_wp_marks Tryz.func31 rfl trivial ?_ rfl
  simp only [Tryz.ntmps31, List.size_toArray, List.length_cons, List.length_nil, Nat.reduceAdd, Nat.reduceSub, Array.replicate_succ, Array.replicate_zero, List.push_toArray, List.append_toArray, List.nil_append, List.cons_append]
  gi_wp2_with (first | (refine ⟨trivial, ?_⟩; gi_at_call 63; refine (callsIn_wide.2 (hc.out _)).mono ?_; rintro e w' ⟨rfl, hw⟩; subst w') | (refine ⟨trivial, ?_⟩; gi_at_call 68; refine (callsIn_wide.2 (HSP.out _)).mono ?_; rintro e W0 ⟨zs, zp, zv, rfl, hz1, hz2, hz3, hz4, hbs, hbp, hbv, hb0⟩))
  obtain ⟨ok, hI0⟩ := parse_start HG.out HME.out hz1 hz2 hz3 hz4 hbs hbp hbv hb0
  clear q1 q2 q3 q4 u1 u2 u3 u4 m1 m2 m3 m4
  have OK := Lib.hid ok
  refine wpIn_rangeZ rfl h1 (gf := 146) (lb := #[.pointer (some ⟨zp, 0, none⟩), .pointer (some ⟨zs, 0, none⟩), .pointer (some ⟨zv, 0, none⟩)]) rfl trivial (enters_of Tryz.func146 (by kernel_rfl) rfl)
    (split_stops (n - 1) (by omega) zs zp zv s hs W0 ⟨by omega, by omega⟩ hbs hbp hbv) (by omega) (fun h h' => h.trans h') (fun W l o o' hl _ _ _ => Keep3.turn W l o' (by omega) (by omega) (by omega)) (Below.refl _ _) (fun _ => rfl)
    (LoopI (numsAt w Wd W0 zs zp zv) w) (LoopX (numsAt w Wd W0 zs zp zv) w) (LoopI.own ok w) (LoopX.own ok w) hI0 ?a1 ?assign ?body ?done ?stop
  case assign =>
    rintro l x W K hK
    gi_wp2
    exact hK
  case body =>
    rintro l pre x W hl hI hlt hxs
    have hln1 : pre.length ≤ 1048576 := by omega
    exact parse_body (numsAt w Wd W0 zs zp zv) OK.out n hn l w HV.out rfl pre x W hI hln1 (by omega) _ rfl _ _ _ _ _ _ _ _ _ _ _ _ _ _ _ _ _ _ _ _ _ _ _ _ _ _ _ _ _ _ _ _ _ _ _ _ _ _ _ _ _ _ _ _ _ _ _ _ _ _ _ _ _ _ _ _ _ _ _ _ _ _ _ _ _ _ _ _ _ _ _ _ _ _ _ _ _ _ _ _ _ _ _ _ _ _ _ _ _ _ _ _ _ _ _ _ _ _ _ _ _ _ _ _ _ _ _ _
  case done =>
    rintro D xs W hD rfl ⟨st, cv, kv, i1, i2, i3, i4, i5, i6, i7⟩ hK
    have hok := doLines_ok StOk.empty i1
    have hcnt := doLines_count _ _ _ _ i1
    rw [wl_length] at hcnt
    have hm1 : st.d.classes.length ≤ 1048576 := Nat.le_trans hcnt.1 (by show 0 + _ ≤ _; omega)
    have hm2 : st.d.kinds.length ≤ 1048576 := Nat.le_trans hcnt.2.1 (by show 0 + _ ≤ _; omega)
    have hm3 : st.lines.length ≤ 1048576 := Nat.le_trans hcnt.2.2 (by show 0 + _ ≤ _; omega)
    have hE := Lib.hid (ends_laid hok hm1 hm2 hm3 W i2)
    have cR : W.cell? ⟨w.heap.size + 1 + 1 + 1 + 1 + 1 + 1 + 1 + 1, 0, none⟩ = some (.pointer (some ⟨w.heap.size + 1 + 1 + 1 + 1 + 1 + 1 + 1, 0, none⟩)) := i5.r.cell
    have HI2 := Lib.hid i2
    have HI1 := Lib.hid i1
    have HI5 := Lib.hid i5
    have HI3 := Lib.hid i3
    have HI4 := Lib.hid i4
    have HI6 := Lib.hid i6
    have HOK := Lib.hid hok
    clear i1 i2 i3 i4 i5 i6 hcnt
    have e1 : pieces 10 s.data.toList = wl (piecesB s) := (wl_pieces s).symm
    gi_wp2_with fail
    refine ⟨trivial, ?_⟩
    refine (callsIn_wide.2 hE.out).mono ?_
    rintro e w5 ⟨hEO, hb5⟩
    have hS5 := HI2.out.later hb5
    obtain ⟨vs, hvs⟩ := HI5.out.s
    have bR : Boxed w5 (w.heap.size + 1 + 1 + 1 + 1 + 1 + 1 + 1 + 1) 88 (.pointer (some ⟨w.heap.size + 1 + 1 + 1 + 1 + 1 + 1 + 1, 0, none⟩)) := (hb5.block _ HI5.out.r.lt).trans HI5.out.r
    have b0 : Boxed w5 w.heap.size 23 (.pointer none) := (hb5.block _ HI3.out.lt).trans HI3.out
    have b1 : Boxed w5 (w.heap.size + 1) 43 .nilIface := (hb5.block _ HI4.out.lt).trans HI4.out
    have bs : ∃ v, Boxed w5 zs 9 v := ⟨vs, (hb5.block _ hvs.lt).trans hvs⟩
    have hK5 : w5.heap[D]? = some (.deferred (some [])) := (hb5.block D (lt_of_block hK)).trans hK
    have hX5 : w5.heap[w.heap.size + 1 + 1 + 1 + 1 + 1 + 1 + 1]? = some (.cells #[.pointer (some ⟨w.heap.size + 1 + 1 + 1 + 1 + 1, 0, none⟩), .map (some (blocksAt w.heap.size).l), .int .i64 (piecesB s).length] 96 (0, 0)) := hS5.hx
    have r0 := bR.cell
    have r1 := b0.cell
    have r2 := b1.cell
    have g1 := b0.frozen
    have g2 := b1.frozen
    have r3 : w5.cell? ⟨w.heap.size + 1 + 1 + 1 + 1 + 1 + 1 + 1, 0, none⟩ = some (.pointer (some ⟨w.heap.size + 1 + 1 + 1 + 1 + 1, 0, none⟩)) := by rw [cell_of_row w5 _ 0 _ _ (0, 0) hX5]; rfl
    have HB6 : Hid (Below w.heap.size w w5) := Lib.hid ((show Below w.heap.size w W from HI6.out).trans (hb5.mono HI6.out.size))
    rcases hEO with ⟨rfl, hall⟩ | ⟨p, hp, no, hbad, hleast, rfl⟩
    · have HBL := Lib.hid (badLeast_none hall)
      have hcl := parse_close OK.out b0 b1 bs hD hK5 (.pointer (some ⟨w.heap.size + 1 + 1 + 1 + 1 + 1, 0, none⟩)) .nilIface
      dsimp only [numsAt] at hcl
      have HC := Lib.hid hcl
      have HS5 := Lib.hid hS5
      clear hcl hall b0 b1 bs hS5 hX5 bR hb5 hvs
      gi_wp2
      obtain ⟨k2, c0, c1, hbe, hst⟩ := HC.out
      refine ⟨by simp, .inl ⟨_, _, rfl, run_takeDeferred k2, ?_⟩⟩
      refine ⟨.tuple #[.pointer (some ⟨w.heap.size + 1 + 1 + 1 + 1 + 1, 0, none⟩), .nilIface], ?_, ?_, HB6.out.trans hbe⟩
      · simp [results, Tryz.f31, go_sem, c0, c1]
      · unfold fileOf
        rw [e1, HI1.out]
        simp only [HBL.out]
        exact ⟨_, rfl, by omega, (hst HS5.out).props HOK.out hm1 hm2⟩
    · have HBL := Lib.hid (badLeast_one (by rw [HOK.out.keys]; exact HOK.out.nodup) hp hbad hleast)
      have hcl := parse_close OK.out b0 b1 bs hD hK5 (.pointer none) (.iface 111 (.agg #[.int .i64 no, .int .i64 p.2, .int .i64 0]))
      dsimp only [numsAt] at hcl
      have HC := Lib.hid hcl
      clear hcl hbad hleast b0 b1 bs hS5 hX5 bR hb5 hvs
      gi_wp2
      obtain ⟨k2, c0, c1, hbe, _⟩ := HC.out
      refine ⟨by simp, .inl ⟨_, _, rfl, run_takeDeferred k2, ?_⟩⟩
      refine ⟨.tuple #[.pointer none, .iface 111 (.agg #[.int .i64 no, .int .i64 p.2, .int .i64 0])], ?_, ?_, HB6.out.trans hbe⟩
      · simp [results, Tryz.f31, go_sem, c0, c1]
      · unfold fileOf
        rw [e1, HI1.out]
        simp only [HBL.out]
        rfl
  case stop =>
    rintro D pre W hD ⟨k, hk, rfl⟩ ⟨e, ln, i1, i3, i4, i6, i7⟩ hK
    have HI3 := Lib.hid i3
    have HI4 := Lib.hid i4
    have HI6 := Lib.hid i6
    have HI1 := Lib.hid i1
    clear i1 i3 i4 i6
    have e1 : pieces 10 s.data.toList = wl (piecesB s) := (wl_pieces s).symm
    gi_wp2
    refine ⟨by simp, .inl ⟨_, _, rfl, run_takeDeferred hK, ?_⟩⟩
    have c0 := cell_kept HI3.out.cell (grownBy_putObj' _ D (.deferred none)) (fun r e => by cases e; exact ⟨_, hK, rfl⟩)
    have c1 := cell_kept HI4.out.cell (grownBy_putObj' _ D (.deferred none)) (fun r e => by cases e; exact ⟨_, hK, rfl⟩)
    replace c0 : (W.putObj D (.deferred none)).cell? ⟨w.heap.size, 0, none⟩ = some (.pointer none) := c0
    replace c1 : (W.putObj D (.deferred none)).cell? ⟨w.heap.size + 1, 0, none⟩ = some (.iface 111 (.agg #[.int .i64 e, .int .i64 ln, .int .i64 0])) := c1
    have hNW : w.heap.size ≤ W.heap.size := HI6.out.size
    have k1 : w.heap.size + 9 < Wd.heap.size := OK.out.zm
    have k2 : Wd.heap.size < zs := OK.out.zs
    refine ⟨.tuple #[.pointer none, .iface 111 (.agg #[.int .i64 e, .int .i64 ln, .int .i64 0])], ?_, ?_, (show Below w.heap.size w W from HI6.out).grown (grownBy_putObj' _ D _) hNW (fun k e => by have e : D = k := Option.some.inj e; omega)⟩
    · simp [results, Tryz.f31, go_sem, c0, c1]
    · unfold fileOf
      rw [e1, doLines_stop HI1.out k rfl]
      rfl
end Go.Proofs.YtikpkjpnehkbfaaGreatDoor.Pr
namespace Go.Proofs.YtikpkjpnehkbfaaGreatDoor.Pr
open Go Go.RowKit Go.Shelf Go.Proofs.YtikpkjpnehkbfaaGreatDoor.Sp Go.Proofs.YtikpkjpnehkbfaaGreatDoor.Mapl Go.Proofs.YtikpkjpnehkbfaaGreatDoor.Rowl Go.Proofs.YtikpkjpnehkbfaaGreatDoor.Rz
attribute [local go_sem] Oper.semAt_some
set_option maxRecDepth 100000 in
set_option maxHeartbeats 4000000 in
theorem parse_many (n : Nat) (hn : 1 ≤ n) (s : ByteArray) (c : Int) (hc : Hid (CountNl s c)) (hc0 : 0 ≤ c) (hc1 : c ≤ 1048576) (hp : 0 < s.size) (hbig : 65536 < c) (hs : s.size ≤ 1048576) (w : World) :
    CallsIn .wide n Tryz.prog 31 #[.string s] w fun e W' => e = .returned (.tuple #[.pointer none, errV 5]) ∧ Below w.heap.size w W' := by
  have hs1 : ¬ 1048576 < (s.size : Int) := by omega
  refine callsIn_of_wp_marks Tryz.func31 rfl trivial ?_ rfl
  simp only [Tryz.ntmps31, List.size_toArray, List.length_cons, List.length_nil, Nat.reduceAdd, Nat.reduceSub, Array.replicate_succ, Array.replicate_zero, List.push_toArray, List.append_toArray, List.nil_append, List.cons_append]
  gi_wp2_with (refine ⟨trivial, ?_⟩; gi_at_call 63; refine (callsIn_wide.2 (hc.out _)).mono ?_; rintro e w' ⟨rfl, hw⟩; subst w')
  all_goals
    refine ⟨.tuple #[.pointer none, errV 5], ?_, rfl, ((Below.refl _ w).alloc (Nat.le_refl _) _).alloc (by simp) _⟩
    simp [results, Tryz.f31, go_sem, errV]
set_option maxRecDepth 100000 in
set_option maxHeartbeats 4000000 in
theorem parse_many_open (n : Nat) (hn : 1 ≤ n) (s : ByteArray) (c : Int) (hc : Hid (CountNl s c)) (hc0 : 0 ≤ c) (hc1 : c ≤ 1048576) (hp : 0 < s.size) (hlast : s[s.size - 1] ≠ 10) (hbig : 65536 < c + 1) (hs : s.size ≤ 1048576) (w : World) :
    CallsIn .wide n Tryz.prog 31 #[.string s] w fun e W' => e = .returned (.tuple #[.pointer none, errV 5]) ∧ Below w.heap.size w W' := by
  have hN : ¬ s.toList = [] := by
    intro h
    have : s.size = 0 := by rw [Lib.size_eq, ← Lib.toList_data, h]; rfl
    omega
  have hE : s.toList.isEmpty = false := by cases h : s.toList with
    | nil => exact absurd h hN
    | cons => rfl
  have hL : ((s[s.size - 1].toNat : Int) != 10) = true := by
    rw [bne_iff_ne]
    intro h
    refine hlast (UInt8.toNat_inj.1 ?_)
    show s[s.size - 1].toNat = 10
    omega
  have hs1 : ¬ 1048576 < (s.size : Int) := by omega
  refine callsIn_of_wp_marks Tryz.func31 rfl trivial ?_ rfl
  simp only [Tryz.ntmps31, List.size_toArray, List.length_cons, List.length_nil, Nat.reduceAdd, Nat.reduceSub, Array.replicate_succ, Array.replicate_zero, List.push_toArray, List.append_toArray, List.nil_append, List.cons_append]
  gi_wp2_with (refine ⟨trivial, ?_⟩; gi_at_call 63; refine (callsIn_wide.2 (hc.out _)).mono ?_; rintro e w' ⟨rfl, hw⟩; subst w')
  all_goals
    refine ⟨.tuple #[.pointer none, errV 5], ?_, rfl, ((Below.refl _ w).alloc (Nat.le_refl _) _).alloc (by simp) _⟩
    simp [results, Tryz.f31, go_sem, errV]
theorem pieces_count : ∀ l : Bytes, (pieces 10 l).length = (l.filter (· == 10)).length + 1
  | [] => rfl
  | b :: l => by
    have ih := pieces_count l
    unfold pieces
    by_cases h : b = 10
    · subst h
      simp [ih]
    · rw [if_neg h]
      have hb : (b == 10) = false := beq_eq_false_iff_ne.2 h
      rw [List.filter_cons, hb]
      simp only [Bool.false_eq_true, if_false]
      split
      · rename_i h0
        rw [h0] at ih
        simp at ih
      · rename_i h0
        rw [h0] at ih
        simpa using ih
theorem last_at (s : ByteArray) (hp : 0 < s.size) : s.data.toList.getLast? = some s[s.size - 1] := by
  rw [List.getLast?_eq_getElem?, ← Lib.size_eq]
  have h := Lib.getD_at s (s.size - 1) (by omega)
  rw [h, List.getD_eq_getElem?_getD]
  have hl : s.size - 1 < s.data.toList.length := by rw [← Lib.size_eq]; omega
  rw [List.getElem?_eq_getElem hl]
  rfl
theorem countNl (s : ByteArray) : CountNl s (((s.data.toList.filter (· == 10)).length : Nat) : Int) := fun W => by
  have h := Tryz.strings_Count_one s 10 W
  rw [lines_count] at h
  exact h
theorem parse_calls (s : ByteArray) (hs : s.size ≤ 1048576) {m : Int} {ev : Value} (w : World) (hv : Vars w.heap.size w m ev) :
    Calls Tryz.prog 31 #[.string s] w fun e W' => ParseOut w.heap.size (parse s.data.toList) e W' ∧ Below w.heap.size w W' := by
  refine (callsIn_wide (n := 3)).1 ?_
  obtain ⟨c, hcd⟩ : ∃ c, (s.data.toList.filter (· == 10)).length = c := ⟨_, rfl⟩
  have hc : Hid (CountNl s (c : Int)) := Lib.hid (by rw [← hcd]; exact countNl s)
  have hcl : c ≤ s.size := by rw [← hcd, Lib.size_eq]; exact List.length_filter_le _ _
  have hpc : (piecesB s).length = c + 1 := by unfold piecesB; rw [List.length_map, pieces_count, hcd]
  have hz : ¬ 1048576 < s.data.toList.length := by rw [← Lib.size_eq]; omega
  by_cases hp : 0 < s.size
  · have hne : s.data.toList ≠ [] := fun h => by rw [Lib.size_eq, h] at hp; simp at hp
    by_cases hlast : s[s.size - 1] = 10
    · have hlc : lineCount s.data.toList = c := by
        unfold lineCount
        rw [hcd, if_neg (by rw [last_at s hp, hlast]; simp)]
        rfl
      by_cases hb : 65536 < c
      · refine (parse_many 3 (by omega) s c hc (by omega) (by omega) hp (by omega) hs w).mono ?_
        rintro e W' ⟨rfl, h⟩
        unfold parse
        rw [if_pos (.inr (by omega))]
        exact ⟨rfl, h⟩
      · have hpe : parse s.data.toList = fileOf s.data.toList := by unfold parse; rw [if_neg (by omega)]; rfl
        rw [hpe]
        exact parse_main 3 (by omega) s c hc (by omega) (by omega) hs hp hlast (by omega) w hv
    · have hlc : lineCount s.data.toList = c + 1 := by
        unfold lineCount
        rw [hcd, if_pos ⟨hne, by rw [last_at s hp]; simpa using hlast⟩]
      by_cases hb : 65536 < c + 1
      · refine (parse_many_open 3 (by omega) s c hc (by omega) (by omega) hp hlast (by omega) hs w).mono ?_
        rintro e W' ⟨rfl, h⟩
        unfold parse
        rw [if_pos (.inr (by omega))]
        exact ⟨rfl, h⟩
      · have hpe : parse s.data.toList = fileOf s.data.toList := by unfold parse; rw [if_neg (by omega)]; rfl
        rw [hpe]
        exact parse_open 3 (by omega) s c hc (by omega) (by omega) hs hp hlast (by omega) w hv
  · have h0 : s.data.toList = [] := List.eq_nil_of_length_eq_zero (by rw [← Lib.size_eq]; omega)
    have hlc : lineCount s.data.toList = 0 := by rw [h0]; rfl
    have hpe : parse s.data.toList = fileOf s.data.toList := by unfold parse; rw [if_neg (by omega)]; rfl
    rw [hpe]
    exact parse_nought 3 (by omega) s c hc (by omega) (by omega) hs (by omega) (by omega) w hv
end Go.Proofs.YtikpkjpnehkbfaaGreatDoor.Pr
namespace Go.Proofs.YtikpkjpnehkbfaaGreatDoor.Pr
open Go Go.RowKit Go.Shelf Go.Proofs.YtikpkjpnehkbfaaGreatDoor.Sp Go.Proofs.YtikpkjpnehkbfaaGreatDoor.Mapl Go.Proofs.YtikpkjpnehkbfaaGreatDoor.Rowl
theorem below_past {w W W' : World} (h : Below w.heap.size w W) (o : Obj) (hb : Below (W.alloc o).heap.size (W.alloc o) W') : Below w.heap.size w W' :=
  (h.alloc h.size o).trans (hb.mono (by rw [World.size_alloc]; have := h.size; omega))
theorem Vars.on {w w' : World} {m : Int} {ev : Value} (h : Vars w.heap.size w m ev) (hb : Below w.heap.size w w') : Vars w'.heap.size w' m ev :=
  have h' := h.below hb
  ⟨⟨Nat.lt_of_lt_of_le h'.lt.1 hb.size, Nat.lt_of_lt_of_le h'.lt.2 hb.size⟩, h'.maxLen, h'.range, h'.iface⟩
theorem parse_good {s : ByteArray} (hs : s.size ≤ 1048576) {m : Int} {ev : Value} {w : World} (hv : Vars w.heap.size w m ev) {D : PD} (h : parse s.data.toList = .ok D) :
    Calls Tryz.prog 31 #[.string s] w fun e w' => ∃ p, e = .returned (.tuple #[.pointer (some ⟨p, 0, none⟩), .nilIface]) ∧ PropsAt w'.heap.size w' p D ∧ Below w.heap.size w w' := by
  refine (parse_calls s hs w hv).mono fun e w' ⟨h1, h2⟩ => ?_
  rw [h] at h1
  obtain ⟨p, e1, _, e2⟩ := h1
  exact ⟨p, e1, e2, h2⟩
end Go.Proofs.YtikpkjpnehkbfaaGreatDoor.Pr
