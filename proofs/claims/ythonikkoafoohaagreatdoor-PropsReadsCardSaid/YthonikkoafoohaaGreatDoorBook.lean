/- glossarykit.Book, as the laws of the properties use it: lists of points, and whether they lie apart. -/
import Derived.Test.YthonikkoafoohaaGreatDoorApartNone
import Derived.Test.YthonikkoafoohaaGreatDoorRefCompose
namespace Go.Proofs.YthonikkoafoohaaGreatDoor.Rf
open Go Go.RowKit Go.Shelf Go.Proofs.YthonikkoafoohaaGreatDoor.Sp Go.Proofs.YthonikkoafoohaaGreatDoor.Pr Go.Proofs.YthonikkoafoohaaGreatDoor.Rowl
set_option linter.unusedSimpArgs false
set_option linter.unusedVariables false

def bookCells (v : Value) : Array Value := #[.slice none 0 0, .slice none 0 0, .slice none 0 0, .slice none 0 0, v, .slice none 0 0, .slice none 0 0, .slice none 0 0, .slice none 0 0, .slice none 0 0, .slice none 0 0, .slice none 0 0, .slice none 0 0, .slice none 0 0, .slice none 0 0, .slice none 0 0, .slice none 0 0, .slice none 0 0, .slice none 0 0, .slice none 0 0, .slice none 0 0, .slice none 0 0, .slice none 0 0, .slice none 0 0]
/-- Lists of points of one's own, apart from each other. -/
structure Lists (n₀ : Nat) (W : World) (vs : List Value) : Prop where
  own : ∀ v ∈ vs, ∃ l : List Int, OwnPts n₀ W v l ∧ l.length ≤ 1048576
  apart : vs.Pairwise fun u v => ∀ g, u.ownBlock = some g → v.ownBlock ≠ some g
def BookI (X : Nat) (W : World) (vs : List Value) : Prop := Lists (X + 1) W vs ∧ ∃ v4, W.heap[X]? = some (.cells (bookCells v4) 112 (0, 0)) ∧ W.ownsRow (X + 1) 36 1 v4 vs.length vs
/-- What stays when a list goes into the book. -/
structure FrB (X : Nat) (w w' : World) : Prop where
  low : Below X w w'
  pts : ∀ b v (l : List Int), OwnPts b w v l → OwnPts b w' v l
theorem infoLists : (Tryz.prog.info? 36).map (fun i => (i.zero, i.size, i.bytes)) = some (some (.slice none 0 0), 1, 24) := by kernel_rfl
theorem BookI.start (w : World) : BookI w.heap.size (w.alloc (.cells (bookCells (.slice none 0 0)) 112)) [] :=
  ⟨⟨by simp, .nil⟩, _, heap_alloc_new w _, rfl, .inl ⟨rfl, rfl⟩⟩
theorem BookI.later {X : Nat} {W W' : World} {vs : List Value} (h : BookI X W vs) (hb : Below W.heap.size W W') : BookI X W' vs := by
  obtain ⟨⟨h1, h2⟩, v4, h3, h4⟩ := h
  refine ⟨⟨fun v hv => ?_, h2⟩, v4, (hb.block X (lt_of_block h3)).trans h3, Rowl.own_later h4 hb⟩
  obtain ⟨l, a, b⟩ := h1 v hv
  exact ⟨l, Rowl.own_later a hb, b⟩
theorem book_close {X : Nat} {w w4 : World} {v4 lv : Value} {vs : List Value} {L : List Int} {o : Obj} {gg cap : Nat} (hl : Lists (X + 1) w vs) (hX : w.heap[X]? = some (.cells (bookCells v4) 112 (0, 0))) (ho : w.ownsRow (X + 1) 36 1 v4 vs.length vs)
    (hlv : OwnPts (X + 1) w lv L) (hL : L.length ≤ 1048576) (hap : ∀ u ∈ vs, ∀ g, u.ownBlock = some g → lv.ownBlock ≠ some g) (hg : (w.alloc o).grownBy w4 v4.ownBlock) (hown : w4.ownsRow (X + 1) 36 1 (.slice (some ⟨gg, 0, none⟩) (vs.length + 1) cap) (vs.length + 1) (vs ++ [lv])) :
    BookI X (w4.setCell ⟨X, 4, none⟩ (.slice (some ⟨gg, 0, none⟩) (vs.length + 1) cap)) (vs ++ [lv]) ∧ FrB X w (w4.setCell ⟨X, 4, none⟩ (.slice (some ⟨gg, 0, none⟩) (vs.length + 1) cap)) := by
  have hxlt := lt_of_block hX
  have hX1 : (w.alloc o).heap[X]? = some (.cells (bookCells v4) 112 (0, 0)) := (Below.heap_alloc w o X hxlt).trans hX
  have hv4X : v4.ownBlock ≠ some X := own_ne ho hX (fun cur e => by injection e with _ e _; exact absurd e (by decide))
  have hX4 : w4.heap[X]? = some (.cells (bookCells v4) 112 (0, 0)) := (hg.block X (by rw [World.size_alloc]; omega) (fun e => hv4X e.symm)).trans hX1
  have hs := setCell_grown w4 ⟨X, 4, none⟩ (.slice (some ⟨gg, 0, none⟩) (vs.length + 1) cap)
  have hpts : ∀ b v (l : List Int), OwnPts b w v l → OwnPts b (w4.setCell ⟨X, 4, none⟩ (.slice (some ⟨gg, 0, none⟩) (vs.length + 1) cap)) v l := fun b v l hv => by
    have hva : (w.alloc o).ownsRow b 21 1 v l.length (enc l) := World.ownsRow.alloc hv o
    have h1 : w4.ownsRow b 21 1 v l.length (enc l) := hva.kept hg (by
      cases hc : v4.ownBlock with
      | none => cases v.ownBlock <;> simp
      | some g =>
        obtain ⟨_, cur4, hh⟩ := own_block (World.ownsRow.alloc ho o) hc
        exact .inr (own_ne hva (o := .cells cur4 36 (0, 0)) (k := g) hh (fun cur e => by injection e with _ e _; exact absurd e (by decide))))
    exact h1.kept hs (.inr (own_ne h1 hX4 (fun cur e => by injection e with _ e _; exact absurd e (by decide))))
  refine ⟨⟨⟨fun v hv => ?_, ?_⟩, .slice (some ⟨gg, 0, none⟩) (vs.length + 1) cap, ?_, ?_⟩, ⟨?_, hpts⟩⟩
  · rcases List.mem_append.1 hv with hv | hv
    · obtain ⟨l, a, b⟩ := hl.own v hv
      exact ⟨l, hpts _ _ _ a, b⟩
    · simp only [List.mem_singleton] at hv
      subst hv
      exact ⟨L, hpts _ _ _ hlv, hL⟩
  · rw [List.pairwise_append]
    refine ⟨hl.apart, by simp, fun u hu v hv => ?_⟩
    simp only [List.mem_singleton] at hv
    subst hv
    exact hap u hu
  · rw [heap_setCell_same w4 X 4 _ _ _ hX4]
    rfl
  · rw [List.length_append]
    exact hown.kept hs (.inr (own_ne hown hX4 (fun cur e => by injection e with _ e _; exact absurd e (by decide))))
  · exact (((Below.refl X w).alloc (by omega) o).grown hg (by rw [World.size_alloc]; omega) (fun k e => Nat.le_of_succ_le (own_block (World.ownsRow.alloc ho o) e).1)).setCell (p := ⟨X, 4, none⟩) (Nat.le_refl _) _
theorem book_field {X : Nat} {w w4 : World} {v4 : Value} {vs : List Value} {o : Obj} (hX : w.heap[X]? = some (.cells (bookCells v4) 112 (0, 0))) (ho : w.ownsRow (X + 1) 36 1 v4 vs.length vs) (hg : (w.alloc o).grownBy w4 v4.ownBlock) : w4.cell? ⟨X, 4, none⟩ = some v4 ∧ w4.frozen? ⟨X, 4, none⟩ = false := by
  have hxlt := lt_of_block hX
  have hv4X : v4.ownBlock ≠ some X := own_ne ho hX (fun cur e => by injection e with _ e _; exact absurd e (by decide))
  have hX4 : w4.heap[X]? = some (.cells (bookCells v4) 112 (0, 0)) := (hg.block X (by rw [World.size_alloc]; omega) (fun e => hv4X e.symm)).trans ((Below.heap_alloc w o X hxlt).trans hX)
  exact ⟨by rw [cell_of_row w4 X 4 _ _ (0, 0) hX4]; rfl, by simp [World.frozen?, hX4]⟩
set_option maxHeartbeats 4000000 in
set_option maxRecDepth 100000 in
theorem bookRunes_calls (X : Nat) (w : World) (vs : List Value) (h : BookI X w vs) (hlen : vs.length ≤ 1048576) (lv : Value) (L : List Int) (hlv : OwnPts (X + 1) w lv L) (hL : L.length ≤ 1048576) (hap : ∀ u ∈ vs, ∀ g, u.ownBlock = some g → lv.ownBlock ≠ some g) :
    Calls Tryz.prog 50 #[.pointer (some ⟨X, 0, none⟩), lv] w fun e w' => e = .returned (.tuple #[]) ∧ BookI X w' (vs ++ [lv]) ∧ FrB X w w' := by
  obtain ⟨hl, v4, hX, ho⟩ := h
  have HO := Lib.hid ho
  have HX := Lib.hid hX
  have HL := Lib.hid hl
  have HLV := Lib.hid hlv
  have HAP := Lib.hid hap
  obtain ⟨ii, hi0, hz0, hz1, hz2⟩ := info_parts infoLists
  have q0 : w.cell? ⟨X, 4, none⟩ = some v4 := by rw [cell_of_row w X 4 _ _ (0, 0) hX]; rfl
  have hxlt := lt_of_block hX
  obtain ⟨Al, Cl, rfl⟩ := Rowl.own_slice hlv
  obtain ⟨A4, C4, rfl⟩ := Rowl.own_slice ho
  clear ho hX hl hlv hap
  go_enter Tryz.func50, Tryz.ntmps50
  go_wp2_with (at_builtin; go_must (refine wpList_append_lies _ (by rfl) _ _ _ (by rfl) (X + 1) 36 ii _ 1 24 Tryz.underlying91 hi0 hz0 hz1 hz2 rfl (by omega) (.slice A4 vs.length C4) vs.length vs (by rfl) (World.ownsRow.alloc HO.out _) ⟨w.heap.size, 0, none⟩ 1 1 [.slice Al L.length Cl] (by rfl) (by rfl) (World.news_of_block (cs := #[.slice Al L.length Cl]) (t := 36) (fr := (0, 0)) (heap_alloc_new w _)) (by simp [Value.oneCell']) (by omega) (by simp only [maxLen]; omega) (by omega) (by rw [World.size_alloc]; omega) (w.heap.size + 1) (by simp) ?_; intro gg cap w4 hown hgrow hat hgl; obtain ⟨q1, q2⟩ := book_field HX.out HO.out hgrow; have HF := Lib.hid (book_close HL.out HX.out HO.out HLV.out hL HAP.out hgrow hown); clear hown hgrow hat hgl))
  go_end0
  exact ⟨rfl, HF.out.1, HF.out.2⟩
def mkR (k i : Nat) : Int := wrap32 (wrap32 (-1000 * wrap32 ((k : Int) + 1)) - wrap32 i)
theorem mark_calls (k i : Int) (w : World) (h0 : 0 ≤ k) (h1 : k < 4294967296) (h2 : 0 ≤ i) (h3 : i < 1099511628000) : Calls Tryz.prog 132 #[.int .i64 k, .int .i64 i] w fun e w' => e = .returned (.int .i32 (mkR k.toNat i.toNat)) ∧ Below w.heap.size w w' := by
  unfold mkR
  rw [Int.toNat_of_nonneg h0, Int.toNat_of_nonneg h2]
  go_enter Tryz.func132, Tryz.ntmps132
  go_wp2
  go_ret
  exact ⟨rfl, Below.refl _ _⟩
theorem book_cells {X : Nat} {W : World} {v4 : Value} (h : W.heap[X]? = some (.cells (bookCells v4) 112 (0, 0))) : W.cell? ⟨X, 0, none⟩ = some (.slice none 0 0) ∧ W.cell? ⟨X, 1, none⟩ = some (.slice none 0 0) ∧ W.cell? ⟨X, 2, none⟩ = some (.slice none 0 0) ∧ W.cell? ⟨X, 3, none⟩ = some (.slice none 0 0) ∧ W.cell? ⟨X, 4, none⟩ = some v4 ∧ W.cell? ⟨X, 5, none⟩ = some (.slice none 0 0) ∧ W.cell? ⟨X, 6, none⟩ = some (.slice none 0 0) ∧ W.cell? ⟨X, 7, none⟩ = some (.slice none 0 0) ∧ W.cell? ⟨X, 8, none⟩ = some (.slice none 0 0) ∧ W.cell? ⟨X, 9, none⟩ = some (.slice none 0 0) ∧ W.cell? ⟨X, 10, none⟩ = some (.slice none 0 0) ∧ W.cell? ⟨X, 11, none⟩ = some (.slice none 0 0) ∧ W.cell? ⟨X, 12, none⟩ = some (.slice none 0 0) ∧ W.cell? ⟨X, 13, none⟩ = some (.slice none 0 0) ∧ W.cell? ⟨X, 14, none⟩ = some (.slice none 0 0) ∧ W.cell? ⟨X, 15, none⟩ = some (.slice none 0 0) ∧ W.cell? ⟨X, 16, none⟩ = some (.slice none 0 0) ∧ W.cell? ⟨X, 17, none⟩ = some (.slice none 0 0) ∧ W.cell? ⟨X, 18, none⟩ = some (.slice none 0 0) ∧ W.cell? ⟨X, 19, none⟩ = some (.slice none 0 0) ∧ W.cell? ⟨X, 20, none⟩ = some (.slice none 0 0) ∧ W.cell? ⟨X, 21, none⟩ = some (.slice none 0 0) ∧ W.cell? ⟨X, 22, none⟩ = some (.slice none 0 0) ∧ W.cell? ⟨X, 23, none⟩ = some (.slice none 0 0) := by
  refine ⟨?_, ?_, ?_, ?_, ?_, ?_, ?_, ?_, ?_, ?_, ?_, ?_, ?_, ?_, ?_, ?_, ?_, ?_, ?_, ?_, ?_, ?_, ?_, ?_⟩
  all_goals (rw [cell_of_row W X _ _ _ (0, 0) h]; rfl)
/-- The lists, as the walk of Apart asks for them. -/
theorem book_apart {X : Nat} {W : World} {vs : List Value} (hl : Lists (X + 1) W vs) {A : Option Addr} {c : Nat} (ho : W.ownsRow (X + 1) 36 1 (.slice A vs.length c) vs.length vs) (hlen : vs.length ≤ 1000000) (hX : X + 1 ≤ W.heap.size) :
    Calls Tryz.prog 86 #[.slice A vs.length c] W fun e w' => e = .returned (.bool true) ∧ Below (X + 1) W w' := by
  by_cases h0 : 0 < vs.length
  · obtain ⟨g, c', e, hg1, hg2, _, _⟩ := Rowl.own_some ho h0
    simp only [Value.slice.injEq] at e
    obtain ⟨rfl, _, rfl⟩ := e
    have hv : ∀ k, k < vs.length → ∃ l : List Int, OwnPts (X + 1) W (vs.getD k (.pointer none)) l ∧ l.length ≤ 1048576 := fun k hk => by
      have := hl.own vs[k] (List.getElem_mem hk)
      rwa [List.getD_eq_getElem?_getD, List.getElem?_eq_getElem hk]
    have hcell := World.ownsRow.cells ho (g := g) rfl
    have hT : ∃ cur, W.heap[g]? = some (.cells cur 36 (0, 0)) := (own_block ho (g := g) rfl).2
    have hex : ∃ L : Nat → List Int, ∀ k, k < vs.length → OwnPts (X + 1) W (vs.getD k (.pointer none)) (L k) ∧ (L k).length ≤ 1048576 := ⟨fun k => if hk : k < vs.length then (hv k hk).choose else [], fun k hk => by
      simp only [hk, dif_pos]
      exact (hv k hk).choose_spec⟩
    obtain ⟨L, hL⟩ := hex
    refine (ApartRunes_calls mkR (fun k i w a1 a2 a3 a4 => mark_calls k i w a1 a2 a3 a4) W (X + 1) vs.length (fun k => vs.getD k (.pointer none)) (fun k => (L k).length) (fun k => enc (L k)) g 0 c ?_ ?_ ?_ ?_ hlen ?_ hX)
    · intro k hk
      exact (hL k hk).1
    · intro j k hj hk hne b hb
      have hp := List.pairwise_iff_getElem.1 hl.apart
      simp only [List.getD_eq_getElem?_getD, List.getElem?_eq_getElem hj, List.getElem?_eq_getElem hk, Option.getD_some] at hb ⊢
      by_cases hlt : j < k
      · exact hp j k hj hk hlt b hb
      · intro e
        exact hp k j hk hj (by omega) b e hb
    · intro k hk
      have := hcell k _ (List.getElem?_eq_getElem hk)
      simp only [List.getD_eq_getElem?_getD, List.getElem?_eq_getElem hk, Option.getD_some]
      exact this
    · intro k hk
      obtain ⟨cur, hT⟩ := hT
      exact own_ne (hL k hk).1 hT (fun cur e => by injection e with _ e _; exact absurd e (by decide))
    · intro k hk
      exact Nat.le_trans (hL k hk).2 (by decide)
  · obtain rfl : vs = [] := List.eq_nil_of_length_eq_zero (by omega)
    rcases ho.2 with ⟨hv, _⟩ | ⟨g, cap, cur, e, hg, hh, h1, h2, h3, h4⟩
    · rw [hv]
      exact (none_Runes W).mono fun e w' h => ⟨h.1, by rw [← h.2]; exact Below.refl _ _⟩
    · rw [e]
      refine (ApartRunes_calls mkR (fun k i w a1 a2 a3 a4 => mark_calls k i w a1 a2 a3 a4) W (X + 1) 0 (fun _ => .pointer none) (fun _ => 0) (fun _ => []) g 0 cap ?_ ?_ ?_ ?_ (by decide) ?_ hX)
      all_goals (intro k hk; omega)
set_option maxHeartbeats 8000000 in
set_option maxRecDepth 100000 in
theorem bookApart_calls (X : Nat) (w : World) (vs : List Value) (h : BookI X w vs) (hlen : vs.length ≤ 1000000) : Calls Tryz.prog 51 #[.pointer (some ⟨X, 0, none⟩)] w fun e w' => e = .returned (.bool true) ∧ Below X w w' := by
  obtain ⟨hl, v4, hX, ho⟩ := h
  obtain ⟨A4, C4, rfl⟩ := Rowl.own_slice ho
  have hxlt := lt_of_block hX
  have HA := Lib.hid (book_apart hl ho hlen (by omega))
  have HX := Lib.hid hX
  obtain ⟨q0, q1, q2, q3, q4, q5, q6, q7, q8, q9, q10, q11, q12, q13, q14, q15, q16, q17, q18, q19, q20, q21, q22, q23⟩ := book_cells hX
  clear hl ho hX
  go_enter Tryz.func51, Tryz.ntmps51
  go_wp2_with (first
    | (go_at_call 86; go_must (refine HA.out.mono ?_; rintro e w5 ⟨rfl, hb5⟩; have HB5 := Lib.hid hb5; obtain ⟨z0, z1, z2, z3, z4, z5, z6, z7, z8, z9, z10, z11, z12, z13, z14, z15, z16, z17, z18, z19, z20, z21, z22, z23⟩ := book_cells ((hb5.block X (Nat.lt_succ_self _)).trans HX.out); clear hb5))
    | (go_at_call 82; (with_reducible refine (none_Bytes _).mono ?_); rintro e w6 ⟨rfl, hw⟩; subst w6)
    | (go_at_call 83; (with_reducible refine (none_Texts _).mono ?_); rintro e w6 ⟨rfl, hw⟩; subst w6)
    | (go_at_call 84; (with_reducible refine (none_Ints _).mono ?_); rintro e w6 ⟨rfl, hw⟩; subst w6)
    | (go_at_call 85; (with_reducible refine (none_Ids _).mono ?_); rintro e w6 ⟨rfl, hw⟩; subst w6)
    | (go_at_call 87; (with_reducible refine (none_Numbers _).mono ?_); rintro e w6 ⟨rfl, hw⟩; subst w6)
    | (go_at_call 88; (with_reducible refine (none_Spans _).mono ?_); rintro e w6 ⟨rfl, hw⟩; subst w6)
    | (go_at_call 89; (with_reducible refine (none_Ranges _).mono ?_); rintro e w6 ⟨rfl, hw⟩; subst w6)
    | (go_at_call 90; (with_reducible refine (none_Tokens _).mono ?_); rintro e w6 ⟨rfl, hw⟩; subst w6)
    | (go_at_call 91; (with_reducible refine (none_Items _).mono ?_); rintro e w6 ⟨rfl, hw⟩; subst w6)
    | (go_at_call 92; (with_reducible refine (none_Seats _).mono ?_); rintro e w6 ⟨rfl, hw⟩; subst w6)
    | (go_at_call 93; (with_reducible refine (none_Weights _).mono ?_); rintro e w6 ⟨rfl, hw⟩; subst w6)
    | (go_at_call 94; (with_reducible refine (none_Elements _).mono ?_); rintro e w6 ⟨rfl, hw⟩; subst w6)
    | (go_at_call 95; (with_reducible refine (none_Spots _).mono ?_); rintro e w6 ⟨rfl, hw⟩; subst w6)
    | (go_at_call 96; (with_reducible refine (none_Words _).mono ?_); rintro e w6 ⟨rfl, hw⟩; subst w6)
    | (go_at_call 97; (with_reducible refine (none_Pairs _).mono ?_); rintro e w6 ⟨rfl, hw⟩; subst w6)
    | (go_at_call 98; (with_reducible refine (none_Entries _).mono ?_); rintro e w6 ⟨rfl, hw⟩; subst w6)
    | (go_at_call 99; (with_reducible refine (none_Docs _).mono ?_); rintro e w6 ⟨rfl, hw⟩; subst w6)
    | (go_at_call 100; (with_reducible refine (none_Infos _).mono ?_); rintro e w6 ⟨rfl, hw⟩; subst w6)
    | (go_at_call 101; (with_reducible refine (none_Hits _).mono ?_); rintro e w6 ⟨rfl, hw⟩; subst w6)
    | (go_at_call 102; (with_reducible refine (none_Nears _).mono ?_); rintro e w6 ⟨rfl, hw⟩; subst w6)
    | (go_at_call 103; (with_reducible refine (none_Posts _).mono ?_); rintro e w6 ⟨rfl, hw⟩; subst w6)
    | (go_at_call 104; (with_reducible refine (none_Terms _).mono ?_); rintro e w6 ⟨rfl, hw⟩; subst w6)
    | (go_at_call 105; (with_reducible refine (none_Queries _).mono ?_); rintro e w6 ⟨rfl, hw⟩; subst w6))
  go_ret
  exact ⟨rfl, HB5.out.mono (Nat.le_succ _)⟩
end Go.Proofs.YthonikkoafoohaaGreatDoor.Rf
