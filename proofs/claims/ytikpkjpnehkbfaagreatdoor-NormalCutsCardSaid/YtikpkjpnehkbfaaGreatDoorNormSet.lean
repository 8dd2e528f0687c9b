/- normal.Stream.Write: what is settled, point by point; a row that is read, appended. -/
import Derived.Test.YtikpkjpnehkbfaaGreatDoorNormCut
import Derived.Deep.Upon
namespace Go.Proofs.YtikpkjpnehkbfaaGreatDoor.Nw
open Go Go.RowKit Go.Shelf Go.Proofs.YtikpkjpnehkbfaaGreatDoor.Sp Go.Proofs.YtikpkjpnehkbfaaGreatDoor.Pr Go.Proofs.YtikpkjpnehkbfaaGreatDoor.Rf Go.Proofs.YtikpkjpnehkbfaaGreatDoor.Nm Go.Proofs.YtikpkjpnehkbfaaGreatDoor.Sb
set_option linter.unusedSimpArgs false
set_option linter.unusedVariables false

theorem set_none (c : Int → Int) (d : List Int) : IsSet c (d.take 0) 0 := ⟨Nat.zero_le _, .inl rfl, fun i x _ h => by simp at h⟩
/-- One point more is looked at. -/
theorem set_step {c : Int → Int} {d : List Int} {k n : Nat} {x : Int} (h : IsSet c (d.take k) n) (hx : d[k]? = some x) : IsSet c (d.take (k + 1)) (if c x = 0 then k + 1 else n) := by
  have hk := (List.getElem?_eq_some_iff.1 hx).1
  have hl : (d.take k).length = k := by rw [List.length_take]; omega
  have hl1 : (d.take (k + 1)).length = k + 1 := by rw [List.length_take]; omega
  have hle := h.le
  by_cases h0 : c x = 0
  · rw [if_pos h0]
    refine ⟨by omega, .inr ⟨x, ?_, h0⟩, fun i y hi hy => ?_⟩
    · rw [Nat.add_sub_cancel, List.getElem?_take, if_pos (by omega), hx]
    · rw [List.getElem?_eq_none (by omega)] at hy
      cases hy
  · rw [if_neg h0]
    refine ⟨by omega, ?_, fun i y hi hy => ?_⟩
    · rcases h.zero with e | ⟨y, hy, e⟩
      · exact .inl e
      · by_cases hn : n = 0
        · exact .inl hn
        · refine .inr ⟨y, ?_, e⟩
          rw [List.getElem?_take, if_pos (by omega)] at hy ⊢
          exact hy
    · rw [List.getElem?_take] at hy
      by_cases hik : i < k
      · rw [if_pos (by omega)] at hy
        exact h.rest i y hi (by rw [List.getElem?_take, if_pos hik]; exact hy)
      · by_cases he : i = k
        · subst he
          rw [if_pos (by omega), hx] at hy
          injection hy with hy
          rw [← hy]
          exact h0
        · rw [if_neg (by omega)] at hy
          cases hy
/-- A row that is read, behind a row of one's own. -/
theorem run_append_read (W : World) (ty : TypeId) (base : Nat) (v mv : Value) (L M : List Int) (hown : OwnPts base W v L) (hM : ReadPts W mv M) (h63 : L.length + M.length ≤ 1073741824) (hbase : base ≤ W.heap.size) :
    ∃ v' w', (Builtin.append_ #[22, 22] ty #[v, mv]).run Tryz.prog W = .ok v' w' ∧ OwnPts base w' v' (L ++ M) ∧ Mvd W w' v v' := by
  obtain ⟨i, hi, hz0, hz1, hz2⟩ := info_parts infoRune
  rcases hM.at_ with ⟨rfl, A, c, rfl⟩ | ⟨b, off, c, rfl, hc⟩
  · have hsrc : Src Tryz.prog i.size 22 (.slice A 0 c) 0 [] W := by
      cases A with
      | none => exact Src.ofNil W Tryz.underlying22 c
      | some a => exact Src.ofSlice W Tryz.underlying22 a 0 c [] (by simp) (fun j u hj => by simp at hj) (fun u hu => by cases hu)
    have hv : ∃ A n cap, v = .slice A n cap ∧ n ≤ cap := by
      rcases hown.2 with ⟨e, _⟩ | ⟨g, cap, cur, e, _, _, hle, _⟩
      · exact ⟨_, _, _, e, Nat.le_refl _⟩
      · exact ⟨_, _, _, e, hle⟩
    obtain ⟨B, n, cap, rfl, hle⟩ := hv
    exact ⟨_, _, run_append_nothing (P := Tryz.prog) W 22 22 ty 21 i Tryz.underlying22 hi B n cap hle _ hsrc, by rw [List.append_nil]; exact hown, Mvd.refl W _⟩
  · obtain ⟨v', w', hr, ho', hg, _, hb⟩ := run_append_own_at (P := Tryz.prog) W base 22 ty 21 i (.int .i32 0) 1 4 Tryz.underlying22 hi hz0 hz1 hz2 rfl (by decide) v L.length (enc L) hown ⟨b, off, none⟩ M.length c (enc M) (by rw [enc_length, Nat.mul_one]) (Pts.cells hc) (enc_one M) (by simp only [maxLen]; omega) (by omega) hbase
    refine ⟨v', w', hr, ?_, ⟨hg.os, hg.tape, hg.output, hg.size, fun k hk hn => hg.block k hk (fun e => hn e.symm), fun g hg' => ?_⟩⟩
    · unfold OwnPts
      rw [show enc (L ++ M) = enc L ++ enc M by simp [enc], List.length_append]
      exact ho'
    · rcases hb with e | e
      · rw [e] at hg'; exact .inl hg'
      · rw [e] at hg'
        injection hg' with hg'
        exact .inr (by omega)
/-- .. At the operation. -/
theorem wp_append_read {o : Oper} {ac : Act} {K : Act → World → Prop} {Q : Exit → Act → World → Prop} {W : World} (s x : Operand)
    (ho : o.op = .call { callee := .builtin .append, args := #[s, x], argTypes := #[22, 22] })
    (base : Nat) (v mv : Value) (L M : List Int) (hs : ac.eval s = v) (hown : OwnPts base W v L) (hx : ac.eval x = mv) (hM : ReadPts W mv M)
    (h63 : L.length + M.length ≤ 1073741824) (hbase : base ≤ W.heap.size)
    (h : ∀ v' w', OwnPts base w' v' (L ++ M) → Mvd W w' v v' → K (ac.put o.dst v') w') : o.wp Tryz.prog ac W K Q := by
  obtain ⟨v', w', hr, h1, h2⟩ := run_append_read W o.type base v mv L M hown hM h63 hbase
  unfold Oper.wp execOp
  simp only [ho, resolve, invoke, builtin, Sem.run_bind, Sem.run_pure, Result.andThen_ok, List.map_toArray, List.map_cons, List.map_nil, hs, hx, hr]
  exact h _ _ h1 h2
/-- .. At a step of a region that draws its order. -/
theorem step_append_read {ops : Array Oper} {o : Oper} {ac : Act} {K : Act → World → Prop} {Q : Exit → Act → World → Prop} {E : Prop} {W : World} (hgd : o.guard = none) (s x : Operand)
    (ho : o.op = .call { callee := .builtin .append, args := #[s, x], argTypes := #[22, 22] })
    (base : Nat) (v mv : Value) (L M : List Int) (hs : ac.eval s = v) (hown : OwnPts base W v L) (hx : ac.eval x = mv) (hM : ReadPts W mv M)
    (h63 : L.length + M.length ≤ 1073741824) (hbase : base ≤ W.heap.size)
    (h : ∀ v' w', OwnPts base w' v' (L ++ M) → Mvd W.drew w' v v' → K (ac.put o.dst v') w') : if Region.wanted o (yielded ops ac.tmps) = true then Oper.wp Tryz.prog o ac W.drew K Q else E := by
  have hw : Region.wanted o (yielded ops ac.tmps) = true := by simp [Region.wanted, hgd]
  rw [if_pos hw]
  exact wp_append_read s x ho base v mv L M hs hown.drew hx (hM.on (Below.refl _ W).drew) h63 hbase h
end Go.Proofs.YtikpkjpnehkbfaaGreatDoor.Nw
