/- The reference's units (glossaryref09): the walk; rows of units. -/
import Derived.Test.YtfmcadobpgpajaaGreatDoorRefDec
import Derived.Test.YtfmcadobpgpajaaGreatDoorCellSpec
import Derived.Test.YtfmcadobpgpajaaGreatDoorRefSingle
import Derived.Maps.AppendAt
import Derived.OwnWalk
import Derived.RangeFuncBox
namespace Go.Proofs.YtfmcadobpgpajaaGreatDoor.Ru
open Go Go.RowKit Go.Lib Go.Proofs.YtfmcadobpgpajaaGreatDoor.Ut Go.Proofs.YtfmcadobpgpajaaGreatDoor.Sp Go.Proofs.YtfmcadobpgpajaaGreatDoor.Rf Go.Proofs.YtfmcadobpgpajaaGreatDoor.Pr
set_option linter.unusedSimpArgs false
set_option linter.unusedVariables false

def badB (l : List UInt8) (x : Nat) : Bool := (run l x : Int) == 65533 && (wid l x : Int) == 1
/-- The cells of a row of units that begin at these bytes. -/
def flatU (l : List UInt8) (us : List Nat) : List Value := us.flatMap fun (x : Nat) => [.int .i64 (x : Int), .int .i32 (run l x : Nat), .bool (badB l x)]
theorem flatU_snoc (l : List UInt8) (us : List Nat) (x : Nat) : flatU l (us ++ [x]) = flatU l us ++ [.int .i64 (x : Int), .int .i32 (run l x : Nat), .bool (badB l x)] := by simp [flatU]
theorem flatU_at (l : List UInt8) : ∀ {us : List Nat} {i x : Nat}, us[i]? = some x → (flatU l us)[i * 3]? = some (.int .i64 (x : Int)) ∧ (flatU l us)[i * 3 + 1]? = some (.int .i32 (run l x : Nat)) ∧ (flatU l us)[i * 3 + 2]? = some (.bool (badB l x))
  | [], i, x, h => by simp at h
  | y :: us, 0, x, h => by
    simp only [List.getElem?_cons_zero, Option.some.injEq] at h
    subst h
    exact ⟨rfl, rfl, rfl⟩
  | y :: us, i + 1, x, h => by
    simp only [List.getElem?_cons_succ] at h
    have := flatU_at l h
    rw [show (i + 1) * 3 = i * 3 + 1 + 1 + 1 by omega]
    exact this
/-- The first units of a text, where the next one begins. -/
inductive Upto (l : List UInt8) : List Nat → Nat → Prop
  | nil : Upto l [] 0
  | snoc {us : List Nat} {x : Nat} : Upto l us x → x < l.length → Upto l (us ++ [x]) (x + wid l x)
theorem Upto.bd {l : List UInt8} {us : List Nat} {x : Nat} (h : Upto l us x) : Bd l x := by
  induction h with
  | nil => exact .zero
  | snoc h hx ih => exact .step ih hx
theorem Upto.len {l : List UInt8} {us : List Nat} {x : Nat} (h : Upto l us x) : us.length ≤ x := by
  induction h with
  | nil => exact Nat.le_refl _
  | @snoc us x h hx ih => have := wid_pos l x; simp; omega
theorem Upto.zero {l : List UInt8} {us : List Nat} {x : Nat} (h : Upto l us x) (e : us = []) : x = 0 := by
  cases h with
  | nil => rfl
  | snoc h hx => simp at e
/-- Its entries: each one begins a unit; the next one stands behind it. -/
theorem Upto.entry {l : List UInt8} {us : List Nat} {x : Nat} (h : Upto l us x) : ∀ i y, us[i]? = some y → Bd l y ∧ y < l.length ∧ (i = 0 → y = 0) ∧ (i + 1 = us.length → y + wid l y = x) ∧ ∀ z, us[i + 1]? = some z → z = y + wid l y := by
  induction h with
  | nil => intro i y h; simp at h
  | @snoc us x h hx ih =>
    intro i y hy
    by_cases hi : i < us.length
    · rw [List.getElem?_append_left hi] at hy
      obtain ⟨h1, h2, h3, h4, h5⟩ := ih i y hy
      refine ⟨h1, h2, h3, fun e => by simp at e; omega, fun z hz => ?_⟩
      by_cases hi2 : i + 1 < us.length
      · rw [List.getElem?_append_left hi2] at hz
        exact h5 z hz
      · rw [List.getElem?_append_right (by omega), show i + 1 - us.length = 0 by omega] at hz
        simp at hz
        rw [← hz]
        exact (h4 (by omega)).symm
    · have hie : i = us.length := by
        have := (List.getElem?_eq_some_iff.1 hy).1
        simp at this
        omega
      rw [List.getElem?_append_right (by omega), hie, Nat.sub_self] at hy
      simp at hy
      subst hy
      refine ⟨h.bd, hx, fun e => ?_, fun _ => rfl, fun z hz => ?_⟩
      · exact h.zero (List.eq_nil_of_length_eq_zero (by omega))
      · rw [List.getElem?_append_right (by omega)] at hz
        have := (List.getElem?_eq_some_iff.1 hz).1
        simp at this
        omega
abbrev OwnUnits (n₀ : Nat) (W : World) (v : Value) (l : List UInt8) (us : List Nat) : Prop := W.ownsRow n₀ 127 3 v us.length (flatU l us)
theorem infoUnit : (Tryz.prog.info? 127).map (fun i => (i.zero, i.size, i.bytes)) = some (some (.agg #[.int .i64 0, .int .i32 0, .bool false]), 3, 16) := by kernel_rfl
theorem wpList_append_unit {ops : Array Oper} {rest : List Oper} {o : Oper} {ac : Act} {Q : Exit → Act → World → Prop} {W : World} {a b c : Value} (hgd : o.guard = none) (s x : Operand)
    (ho : o.op = .call { callee := .builtin .append, args := #[s, x], argTypes := #[123, 123] })
    (base : Nat) (v : Value) (n : Nat) (L : List Value) (hs : ac.eval s = v) (hown : W.ownsRow base 127 3 v n L) (hx : ac.eval x = .slice (some ⟨W.heap.size, 0, none⟩) 1 1)
    (h1 : ∀ u ∈ [a, b, c], u.oneCell' = true) (h63 : n ≤ 1048577) (hbase : base ≤ W.heap.size)
    (h : ∀ v' w', w'.ownsRow base 127 3 v' (n + 1) (L ++ [a, b, c]) → Below base W w' → (∃ g cap, v' = .slice (some ⟨g, 0, none⟩) (n + 1) cap) → wpList Tryz.prog ops Q rest (ac.put o.dst v') w') :
    wpList Tryz.prog ops Q (o :: rest) ac (W.alloc (.cells #[a, b, c] 127)) := by
  obtain ⟨ii, hi0, hz0, hz1, hz2⟩ := info_parts infoUnit
  refine wpList_append_own_at (W.alloc (.cells #[a, b, c] 127)) hgd s x 123 ho base 127 ii _ 3 16 Tryz.underlying123 hi0 hz0 hz1 hz2 rfl (by decide) v n L hs (World.ownsRow.alloc hown _) ⟨W.heap.size, 0, none⟩ 1 1 [a, b, c] hx rfl (cells_laid W [a, b, c] rfl (by simp [maxLen])) h1 (by simp only [maxLen]; omega) (by omega) (by rw [World.size_alloc]; omega) ?_
  intro v' w' ho' hg _ _
  refine h v' w' ho' (((Below.refl _ W).alloc hbase _).grown hg (by rw [World.size_alloc]; omega) (fun k e => (own_block hown e).1)) ?_
  exact ownsRow_succ ho'
def UnitsOut (l : List UInt8) (w : World) (e : Ending) (W' : World) : Prop := ∃ v us, e = .returned v ∧ Upto l us l.length ∧ OwnUnits w.heap.size W' v l us ∧ Below w.heap.size w W'
set_option maxHeartbeats 4000000 in
set_option maxRecDepth 100000 in
theorem units_calls (s : ByteArray) (hs : s.size ≤ 1048576) (w : World) : Calls Tryz.prog 71 #[.string s] w fun e w' => UnitsOut s.data.toList w e w' := by
  obtain ⟨ii, hi0, hz0, hz1, hz2⟩ := info_parts infoUnit
  have HS := Lib.hid (Lib.size_eq s)
  go_enter Tryz.func71, Tryz.ntmps71
  go_wp2
  go_loopw [3, 4] (fun v f wr => ∃ (x : Nat) (us : List Nat), f = .int .i64 (x : Int) ∧ x ≤ s.size ∧ Hid (Upto s.data.toList us x) ∧ OwnUnits w.heap.size wr v s.data.toList us ∧ Below w.heap.size w wr) (fun _ f _ => s.size - (intOf f).toNat)
  case atStart => exact ⟨0, [], rfl, Nat.zero_le _, Lib.hid .nil, ⟨rfl, .inl ⟨rfl, rfl⟩⟩, Below.refl _ _⟩
  case round =>
    obtain ⟨x, us, rfl, hx, hU, hown, hB⟩ := hrel
    by_cases hlt : x < s.size
    · have hltz : (x : Int) < (s.size : Int) := by omega
      have HD := Lib.hid (fun W => Decode_calls s x hs hlt W)
      have hul := hU.out.len
      have hwl := wid_le (l := s.data.toList) (x := x) (by rw [← HS.out]; exact hlt)
      rw [← HS.out] at hwl
      have hwp := wid_pos s.data.toList x
      have HN := Lib.hid (Upto.snoc hU.out (by rw [← HS.out]; exact hlt))
      have HF := Lib.hid (flatU_snoc s.data.toList us x)
      unfold badB at HF
      obtain ⟨c1, f1⟩ : ∃ c, ((run s.data.toList x : Int) == (65533 : Int)) = c := ⟨_, rfl⟩
      obtain ⟨c2, f2⟩ : ∃ c, ((wid s.data.toList x : Int) == (1 : Int)) = c := ⟨_, rfl⟩
      rw [f1, f2] at HF
      generalize wid s.data.toList x = K at *
      generalize (run s.data.toList x : Int) = r at *
      have HX := Lib.hid hown
      have hHB := Lib.hid hB
      cases c1 <;> cases c2
      all_goals
        go_wp2_with (first
          | (go_at_call 101; (refine (HD.out _).mono ?_); rintro e w' ⟨rfl, rfl⟩)
          | (at_builtin; refine wpList_append_unit rfl _ _ rfl w.heap.size _ _ _ rfl HX.out rfl (by simp [Value.oneCell']) (by omega) hHB.out.size ?_; rintro v' w1 hown' hgrow ⟨g', cap', rfl⟩; have HO := Lib.hid hown'; have HG := Lib.hid hgrow; clear hown' hgrow))
        go_roundw
        case rel =>
          refine ⟨x + K, us ++ [x], by rw [Int.natCast_add], by omega, HN, ?_, hHB.out.trans HG.out⟩
          have h9 := HO.out
          rw [OwnUnits, HF.out, List.length_append]
          exact h9
        case measure => (simp [intOf]; try omega)
    · have hltz : ¬ (x : Int) < (s.size : Int) := by omega
      have hxe : x = s.data.toList.length := by rw [← HS.out]; omega
      have HE := Lib.hid hU.out
      rw [hxe] at HE
      clear hxe
      go_wp2
      go_ret
      exact ⟨_, us, rfl, HE.out, hown, hB⟩
end Go.Proofs.YtfmcadobpgpajaaGreatDoor.Ru
