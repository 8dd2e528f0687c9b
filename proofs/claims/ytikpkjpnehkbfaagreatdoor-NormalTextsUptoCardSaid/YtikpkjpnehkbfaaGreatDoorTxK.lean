/- The reference's decoder (glossaryref02): the walks; The reference's Bytes, Text: the walks; The reference's Next, Of: the walks. -/
import Derived.Test.YtikpkjpnehkbfaaGreatDoorTxD
import Derived.Test.YtikpkjpnehkbfaaGreatDoorTxJ
import Derived.Test.YtikpkjpnehkbfaaGreatDoorTxG
import Derived.IntWalk
namespace Go.Proofs.YtikpkjpnehkbfaaGreatDoor.Nw
open Go Go.RowKit Go.Shelf Go.Proofs.YtikpkjpnehkbfaaGreatDoor.Sp Go.Proofs.YtikpkjpnehkbfaaGreatDoor.Pr Go.Proofs.YtikpkjpnehkbfaaGreatDoor.Rf Go.Proofs.YtikpkjpnehkbfaaGreatDoor.Nm Go.Proofs.YtikpkjpnehkbfaaGreatDoor.Sb Go.Proofs.YtikpkjpnehkbfaaGreatDoor.Ut
set_option linter.unusedSimpArgs false
set_option linter.unusedVariables false
set_option maxHeartbeats 4000000 in
theorem long_calls (c : Int) (h0 : 0 ≤ c) (h1 : c ≤ 255) (W : World) : Calls Tryz.prog 150 #[.int .i64 c] W fun e w' => e = .returned (.tuple #[.int .i64 (longN c), .int .i64 (longV c)]) ∧ w' = W := by
  have hc : c < 128 ∨ (128 ≤ c ∧ c < 192) ∨ (192 ≤ c ∧ c < 224) ∨ (224 ≤ c ∧ c < 240) ∨ (240 ≤ c ∧ c < 248) ∨ 248 ≤ c := by omega
  rcases hc with hc | hc | hc | hc | hc | hc
  · have HE : Hid (longN c = 1 ∧ longV c = c) := Lib.hid (by unfold longN longV; (repeat' split) <;> omega)
    have f0 : c < 128 := by omega
    have f1 : ¬ 192 ≤ c := by omega
    have f2 : c < 224 := by omega
    have f3 : ¬ 224 ≤ c := by omega
    have f4 : c < 240 := by omega
    have f5 : ¬ 240 ≤ c := by omega
    have f6 : c < 248 := by omega
    clear hc
    go_enter Tryz.func150, Tryz.ntmps150
    go_wp2
    go_ret2
    exact ⟨by rw [HE.out.1, HE.out.2]; rfl, rfl⟩
  · have HE : Hid (longN c = 0 ∧ longV c = 0) := Lib.hid (by unfold longN longV; (repeat' split) <;> omega)
    have f0 : ¬ c < 128 := by omega
    have f1 : ¬ 192 ≤ c := by omega
    have f2 : c < 224 := by omega
    have f3 : ¬ 224 ≤ c := by omega
    have f4 : c < 240 := by omega
    have f5 : ¬ 240 ≤ c := by omega
    have f6 : c < 248 := by omega
    clear hc
    go_enter Tryz.func150, Tryz.ntmps150
    go_wp2
    go_ret2
    exact ⟨by rw [HE.out.1, HE.out.2]; rfl, rfl⟩
  · have HE : Hid (longN c = 2 ∧ longV c = c - 192) := Lib.hid (by unfold longN longV; (repeat' split) <;> omega)
    have f0 : ¬ c < 128 := by omega
    have f1 : 192 ≤ c := by omega
    have f2 : c < 224 := by omega
    have f3 : ¬ 224 ≤ c := by omega
    have f4 : c < 240 := by omega
    have f5 : ¬ 240 ≤ c := by omega
    have f6 : c < 248 := by omega
    have e1 : IntKind.i64.wrap (c - 192) = c - 192 := IntWalk.i64_in _ (by omega)
    clear hc
    go_enter Tryz.func150, Tryz.ntmps150
    go_wp2
    go_ret2
    exact ⟨by rw [HE.out.1, HE.out.2]; rfl, rfl⟩
  · have HE : Hid (longN c = 3 ∧ longV c = c - 224) := Lib.hid (by unfold longN longV; (repeat' split) <;> omega)
    have f0 : ¬ c < 128 := by omega
    have f1 : 192 ≤ c := by omega
    have f2 : ¬ c < 224 := by omega
    have f3 : 224 ≤ c := by omega
    have f4 : c < 240 := by omega
    have f5 : ¬ 240 ≤ c := by omega
    have f6 : c < 248 := by omega
    have e1 : IntKind.i64.wrap (c - 224) = c - 224 := IntWalk.i64_in _ (by omega)
    clear hc
    go_enter Tryz.func150, Tryz.ntmps150
    go_wp2
    go_ret2
    exact ⟨by rw [HE.out.1, HE.out.2]; rfl, rfl⟩
  · have HE : Hid (longN c = 4 ∧ longV c = c - 240) := Lib.hid (by unfold longN longV; (repeat' split) <;> omega)
    have f0 : ¬ c < 128 := by omega
    have f1 : 192 ≤ c := by omega
    have f2 : ¬ c < 224 := by omega
    have f3 : 224 ≤ c := by omega
    have f4 : ¬ c < 240 := by omega
    have f5 : 240 ≤ c := by omega
    have f6 : c < 248 := by omega
    have e1 : IntKind.i64.wrap (c - 240) = c - 240 := IntWalk.i64_in _ (by omega)
    clear hc
    go_enter Tryz.func150, Tryz.ntmps150
    go_wp2
    go_ret2
    exact ⟨by rw [HE.out.1, HE.out.2]; rfl, rfl⟩
  · have HE : Hid (longN c = 0 ∧ longV c = 0) := Lib.hid (by unfold longN longV; (repeat' split) <;> omega)
    have f0 : ¬ c < 128 := by omega
    have f1 : 192 ≤ c := by omega
    have f2 : ¬ c < 224 := by omega
    have f3 : 224 ≤ c := by omega
    have f4 : ¬ c < 240 := by omega
    have f5 : 240 ≤ c := by omega
    have f6 : ¬ c < 248 := by omega
    clear hc
    go_enter Tryz.func150, Tryz.ntmps150
    go_wp2
    go_ret2
    exact ⟨by rw [HE.out.1, HE.out.2]; rfl, rfl⟩
theorem leastN_at : leastN 1 = 0 ∧ leastN 2 = 128 ∧ leastN 3 = 2048 ∧ leastN 4 = 65536 := by decide
set_option maxHeartbeats 1000000 in
theorem least_calls (n : Nat) (h0 : 1 ≤ n) (h1 : n ≤ 4) (W : World) : Calls Tryz.prog 151 #[.int .i64 (n : Int)] W fun e w' => e = .returned (.int .i64 (leastN n)) ∧ w' = W := by
  obtain ⟨a1, a2, a3, a4⟩ := leastN_at
  obtain rfl | rfl | rfl | rfl : n = 1 ∨ n = 2 ∨ n = 3 ∨ n = 4 := by omega
  · rw [show ((1 : Nat) : Int) = 1 from rfl, a1]
    clear a1 a2 a3 a4
    go_enter Tryz.func151, Tryz.ntmps151
    go_wp2
    go_ret
    exact ⟨rfl, rfl⟩
  · rw [show ((2 : Nat) : Int) = 2 from rfl, a2]
    clear a1 a2 a3 a4
    go_enter Tryz.func151, Tryz.ntmps151
    go_wp2
    go_ret
    exact ⟨rfl, rfl⟩
  · rw [show ((3 : Nat) : Int) = 3 from rfl, a3]
    clear a1 a2 a3 a4
    go_enter Tryz.func151, Tryz.ntmps151
    go_wp2
    go_ret
    exact ⟨rfl, rfl⟩
  · rw [show ((4 : Nat) : Int) = 4 from rfl, a4]
    clear a1 a2 a3 a4
    go_enter Tryz.func151, Tryz.ntmps151
    go_wp2
    go_ret
    exact ⟨rfl, rfl⟩
set_option maxHeartbeats 2000000 in
theorem rchar_calls (c : Int) (W : World) : Calls Tryz.prog 152 #[.int .i64 c] W fun e w' => e = .returned (.bool (isChar c)) ∧ w' = W := by
  have hc : c < 0 ∨ (0 ≤ c ∧ c < 55296) ∨ (55296 ≤ c ∧ c ≤ 57343) ∨ (57343 < c ∧ c ≤ 1114111) ∨ 1114111 < c := by omega
  have ht : (0 ≤ c ∧ c ≤ 1114111 ∧ (c < 55296 ∨ 57343 < c)) → isChar c = true := fun h => char_iff.2 h
  have hf : ¬ (0 ≤ c ∧ c ≤ 1114111 ∧ (c < 55296 ∨ 57343 < c)) → isChar c = false := fun h => by
    cases e : isChar c with
    | false => rfl
    | true => exact absurd (char_iff.1 e) h
  rcases hc with hc | hc | hc | hc | hc
  · have HE : isChar c = false := hf (by omega)
    rw [HE]
    have f0 : ¬ 0 ≤ c := by omega
    have f1 : c < 55296 := by omega
    have f2 : ¬ 57343 < c := by omega
    have f3 : c ≤ 1114111 := by omega
    clear hc HE ht hf
    go_enter Tryz.func152, Tryz.ntmps152
    go_wp2
    go_ret
    exact ⟨rfl, rfl⟩
  · have HE : isChar c = true := ht (by omega)
    rw [HE]
    have f0 : 0 ≤ c := by omega
    have f1 : c < 55296 := by omega
    have f2 : ¬ 57343 < c := by omega
    have f3 : c ≤ 1114111 := by omega
    clear hc HE ht hf
    go_enter Tryz.func152, Tryz.ntmps152
    go_wp2
    go_ret
    exact ⟨rfl, rfl⟩
  · have HE : isChar c = false := hf (by omega)
    rw [HE]
    have f0 : 0 ≤ c := by omega
    have f1 : ¬ c < 55296 := by omega
    have f2 : ¬ 57343 < c := by omega
    have f3 : c ≤ 1114111 := by omega
    clear hc HE ht hf
    go_enter Tryz.func152, Tryz.ntmps152
    go_wp2
    go_ret
    exact ⟨rfl, rfl⟩
  · have HE : isChar c = true := ht (by omega)
    rw [HE]
    have f0 : 0 ≤ c := by omega
    have f1 : ¬ c < 55296 := by omega
    have f2 : 57343 < c := by omega
    have f3 : c ≤ 1114111 := by omega
    clear hc HE ht hf
    go_enter Tryz.func152, Tryz.ntmps152
    go_wp2
    go_ret
    exact ⟨rfl, rfl⟩
  · have HE : isChar c = false := hf (by omega)
    rw [HE]
    have f0 : 0 ≤ c := by omega
    have f1 : ¬ c < 55296 := by omega
    have f2 : 57343 < c := by omega
    have f3 : ¬ c ≤ 1114111 := by omega
    clear hc HE ht hf
    go_enter Tryz.func152, Tryz.ntmps152
    go_wp2
    go_ret
    exact ⟨rfl, rfl⟩
set_option maxHeartbeats 1000000 in
theorem point_calls (c : Int) (h : okP c) (W : World) : Calls Tryz.prog 118 #[.int .i64 c] W fun e w' => e = .returned (.bool true) ∧ w' = W := by
  have HC := Lib.hid (fun W => rchar_calls c W)
  obtain ⟨b, hb⟩ : ∃ b, isChar c = b := ⟨_, rfl⟩
  rw [hb] at HC
  cases b
  · have h1 : 1114240 ≤ c ∧ c ≤ 1114367 := h.resolve_left (by rw [hb]; decide)
    obtain ⟨f0, f1⟩ := h1
    clear h hb
    go_enter Tryz.func118, Tryz.ntmps118
    go_wp2_with (go_at_call 152; (with_reducible refine (HC.out _).mono ?_); rintro e w' ⟨rfl, rfl⟩)
    go_ret
    exact ⟨rfl, rfl⟩
  · clear h hb
    go_enter Tryz.func118, Tryz.ntmps118
    go_wp2_with (go_at_call 152; (with_reducible refine (HC.out _).mono ?_); rintro e w' ⟨rfl, rfl⟩)
    go_ret
    exact ⟨rfl, rfl⟩
end Go.Proofs.YtikpkjpnehkbfaaGreatDoor.Nw
namespace Go.Proofs.YtikpkjpnehkbfaaGreatDoor.Nw
open Go Go.RowKit Go.Shelf Go.Proofs.YtikpkjpnehkbfaaGreatDoor.Sp Go.Proofs.YtikpkjpnehkbfaaGreatDoor.Pr Go.Proofs.YtikpkjpnehkbfaaGreatDoor.Rf Go.Proofs.YtikpkjpnehkbfaaGreatDoor.Nm Go.Proofs.YtikpkjpnehkbfaaGreatDoor.Sb Go.Proofs.YtikpkjpnehkbfaaGreatDoor.Ut
set_option linter.unusedSimpArgs false
set_option linter.unusedVariables false
def ReadB (W : World) (g n : Nat) (l : Bytes) : Prop := l.length = n ∧ ∀ (i : Nat) (b : UInt8), l[i]? = some b → W.cell? ⟨g, i, none⟩ = some (.int .u8 b.toNat)
theorem readB_new (W : World) {l : Bytes} {n : Nat} {cs : Array Value} (h : cs = (cellsB l).toArray) (hn : l.length = n) (hl : l.length ≤ 4) : ReadB (W.alloc (.cells cs 5)) W.heap.size n l := by
  subst h hn
  refine ⟨rfl, fun i b hb => ?_⟩
  have := cells_laid (e := 5) W (cellsB l) rfl (by rw [cellsB_len]; simp only [maxLen]; omega) i (.int .u8 b.toNat) (by unfold cellsB; rw [List.getElem?_map, hb]; rfl)
  rw [show ((⟨W.heap.size, 0, none⟩ : Addr).add i) = ⟨W.heap.size, i, none⟩ by (unfold Addr.add; split <;> simp_all)] at this
  exact this
theorem cells_ints : ∀ (zs : List Int), (∀ z ∈ zs, 0 ≤ z ∧ z < 256) → zs.map (Value.int .u8) = cellsB (zs.map fun x => x.toNat.toUInt8)
  | [], _ => rfl
  | z :: zs, h => by
    have ih := cells_ints zs (fun x hx => h x (List.mem_cons_of_mem _ hx))
    have hz := h z (List.mem_cons_self ..)
    unfold cellsB at ih ⊢
    rw [List.map_cons, List.map_cons, List.map_cons, ih, byteN hz.1 hz.2]
theorem enc_cells {r : Int} {zs : List Int} {l : Bytes} (hl : encP r = Lib.encodeRune r) (h : Lib.encodeRuneZ r = zs) (hb : ∀ z ∈ zs, 0 ≤ z ∧ z < 256) : (zs.map (Value.int .u8)).toArray = (cellsB (encP r)).toArray := by
  rw [cells_ints zs hb, hl]
  unfold Lib.encodeRune
  rw [h]
theorem enc_len {r : Int} {zs : List Int} (hl : encP r = Lib.encodeRune r) (h : Lib.encodeRuneZ r = zs) : (encP r).length = zs.length := by
  rw [hl]; unfold Lib.encodeRune; rw [h, List.length_map]
theorem bytes_row {r : Int} {zs : List Int} {W : World} {n : Nat} (hl : encP r = Lib.encodeRune r) (h : Lib.encodeRuneZ r = zs) (hb : ∀ z ∈ zs, 0 ≤ z ∧ z < 256) (hn : zs.length = n) :
    ReadB (W.alloc (.cells (zs.map (Value.int .u8)).toArray 5)) W.heap.size n (encP r) :=
  readB_new W (enc_cells (l := []) hl h hb) ((enc_len hl h).trans hn) (encP_len r).2
set_option maxHeartbeats 4000000 in
set_option maxRecDepth 100000 in
theorem rbytes_calls (r : Int) (h : okP r) (W : World) : Calls Tryz.prog 80 #[.int .i32 r] W fun e w' => ∃ n, e = .returned (.slice (some ⟨W.heap.size, 0, none⟩) n n) ∧ ReadB w' W.heap.size n (encP r) ∧ Below W.heap.size W w' := by
  have hr : (0 ≤ r ∧ r < 128) ∨ (128 ≤ r ∧ r < 2048) ∨ (2048 ≤ r ∧ r < 65536 ∧ isChar r = true) ∨ (65536 ≤ r ∧ r ≤ 1114111) ∨ (1114240 ≤ r ∧ r ≤ 1114367) := by
    rcases h with h | h
    · have := char_iff.1 h
      by_cases a : r < 65536
      · by_cases b : r < 2048
        · omega
        · exact .inr (.inr (.inl ⟨by omega, a, h⟩))
      · omega
    · omega
  obtain ⟨n, rfl⟩ : ∃ n : Nat, r = (n : Int) := ⟨r.toNat, by omega⟩
  have e0 : wrap64 (n : Int) = (n : Int) := IntWalk.wrap64_in _ (by omega)
  clear h
  rcases hr with hr | hr | hr | hr | hr
  · have HR := Lib.hid (bytes_row (W := W) (r := (n : Int)) (zs := [(n : Int)]) (n := 1) (by unfold encP; rw [if_neg (by omega)]) (by unfold Lib.encodeRuneZ; (repeat' split) <;> first | rfl | (exfalso; omega)) (by intro z hz; simp only [List.mem_cons, List.not_mem_nil, or_false] at hz; omega) rfl)
    have f0 : ¬ (1114112 : Int) < (n : Int) := by omega
    have f1 : (n : Int) < 128 := by omega
    go_enter Tryz.func80, Tryz.ntmps80
    go_wp2
    go_ret
    exact ⟨1, rfl, HR.out, (Below.refl _ W).alloc (Nat.le_refl _) _⟩
  · have HR := Lib.hid (bytes_row (W := W) (r := (n : Int)) (zs := [192 + (n : Int) / 64, 128 + (n : Int) % 64]) (n := 2) (by unfold encP; rw [if_neg (by omega)]) (by unfold Lib.encodeRuneZ; (repeat' split) <;> first | rfl | (exfalso; omega)) (by intro z hz; simp only [List.mem_cons, List.not_mem_nil, or_false] at hz; omega) rfl)
    have f0 : ¬ (1114112 : Int) < (n : Int) := by omega
    have f1 : ¬ (n : Int) < 128 := by omega
    have f2 : (n : Int) < 2048 := by omega
    go_enter Tryz.func80, Tryz.ntmps80
    go_wp2
    go_ret
    exact ⟨2, rfl, HR.out, (Below.refl _ W).alloc (Nat.le_refl _) _⟩
  · have hch := char_iff.1 hr.2.2
    have HR := Lib.hid (bytes_row (W := W) (r := (n : Int)) (zs := [224 + (n : Int) / 4096, 128 + (n : Int) / 64 % 64, 128 + (n : Int) % 64]) (n := 3) (by unfold encP; rw [if_neg (by omega)]) (by unfold Lib.encodeRuneZ; (repeat' split) <;> first | rfl | (exfalso; omega)) (by intro z hz; simp only [List.mem_cons, List.not_mem_nil, or_false] at hz; omega) rfl)
    have f0 : ¬ (1114112 : Int) < (n : Int) := by omega
    have f1 : ¬ (n : Int) < 128 := by omega
    have f2 : ¬ (n : Int) < 2048 := by omega
    have f3 : (n : Int) < 65536 := by omega
    go_enter Tryz.func80, Tryz.ntmps80
    go_wp2
    go_ret
    exact ⟨3, rfl, HR.out, (Below.refl _ W).alloc (Nat.le_refl _) _⟩
  · have HR := Lib.hid (bytes_row (W := W) (r := (n : Int)) (zs := [240 + (n : Int) / 262144, 128 + (n : Int) / 4096 % 64, 128 + (n : Int) / 64 % 64, 128 + (n : Int) % 64]) (n := 4) (by unfold encP; rw [if_neg (by omega)]) (by unfold Lib.encodeRuneZ; (repeat' split) <;> first | rfl | (exfalso; omega)) (by intro z hz; simp only [List.mem_cons, List.not_mem_nil, or_false] at hz; omega) rfl)
    have f0 : ¬ (1114112 : Int) < (n : Int) := by omega
    have f1 : ¬ (n : Int) < 128 := by omega
    have f2 : ¬ (n : Int) < 2048 := by omega
    have f3 : ¬ (n : Int) < 65536 := by omega
    go_enter Tryz.func80, Tryz.ntmps80
    go_wp2
    go_ret
    exact ⟨4, rfl, HR.out, (Below.refl _ W).alloc (Nat.le_refl _) _⟩
  · have HE : Hid (encP (n : Int) = [((n : Int) - 1114112).toNat.toUInt8]) := Lib.hid (by unfold encP; rw [if_pos (by omega)])
    have HR : Hid (ReadB (W.alloc (.cells #[.int .u8 ((n : Int) - 1114112)] 5)) W.heap.size 1 (encP (n : Int))) := Lib.hid (by
      rw [HE.out]
      refine readB_new W ?_ rfl (by simp)
      have := cells_ints [(n : Int) - 1114112] (by intro z hz; simp only [List.mem_cons, List.not_mem_nil, or_false] at hz; omega)
      simp only [List.map_cons, List.map_nil] at this
      rw [← this])
    have f0 : (1114112 : Int) < (n : Int) := by omega
    have e1 : IntKind.i64.wrap ((n : Int) - 1114112) = (n : Int) - 1114112 := IntWalk.i64_in _ (by omega)
    have e2 : IntKind.u8.wrap ((n : Int) - 1114112) = (n : Int) - 1114112 := IntWalk.u8_in _ (by omega)
    go_enter Tryz.func80, Tryz.ntmps80
    go_wp2
    go_ret
    exact ⟨1, rfl, HR.out, (Below.refl _ W).alloc (Nat.le_refl _) _⟩
theorem wpList_append_byte_mvd {ops : Array Oper} {rest : List Oper} {o : Oper} {ac : Act} {Q : Exit → Act → World → Prop} {W : World} {y : Int} {b : UInt8} (hy : y = (b.toNat : Int)) (hgd : o.guard = none) (s x : Operand)
    (ho : o.op = .call { callee := .builtin .append, args := #[s, x], argTypes := #[119, 119] })
    (base : Nat) (v : Value) (L : Bytes) (hs : ac.eval s = v) (hown : OwnB base W v L) (hx : ac.eval x = .slice (some ⟨W.heap.size, 0, none⟩) 1 1)
    (h63 : L.length ≤ 1073741824) (hbase : base ≤ W.heap.size)
    (h : ∀ v' w', OwnB base w' v' (L ++ [b]) → Mvd W w' v v' → wpList Tryz.prog ops Q rest (ac.put o.dst v') w') : wpList Tryz.prog ops Q (o :: rest) ac (W.alloc (.cells #[.int .u8 y] 5)) := by
  subst hy
  obtain ⟨i, hi, hz0, hz1, hz2⟩ := info_parts infoU8
  refine wpList_append_own_at (W.alloc (.cells #[.int .u8 (b.toNat : Int)] 5)) hgd s x 119 ho base 5 i (.int .u8 0) 1 1 Tryz.underlying119 hi hz0 hz1 hz2 rfl (by decide) v L.length (cellsB L) hs (World.ownsRow.alloc hown _) ⟨W.heap.size, 0, none⟩ 1 1 (cellsB [b]) hx (by simp [cellsB]) (cells_laid W (cellsB [b]) rfl (by simp [cellsB, maxLen])) (by intro u hu; simp [cellsB] at hu; subst hu; rfl) (by simp only [maxLen]; omega) (by omega) (by rw [World.size_alloc]; omega) ?_
  intro v' w' ho' hg _ hb
  have ho2 : OwnB base w' v' (L ++ [b]) := by
    unfold OwnB
    rw [cellsB_app, List.length_append]
    exact ho'
  refine h v' w' ho2 ?_
  have hs := hg.size
  rw [World.size_alloc] at hs
  refine ⟨hg.os, hg.tape, hg.output, by omega, fun k hk hn => (hg.block k (by rw [World.size_alloc]; omega) (fun e => hn e.symm)).trans (Below.heap_alloc W _ k hk), fun g hg' => ?_⟩
  rcases hb with e | e
  · rw [e] at hg'; exact .inl hg'
  · rw [World.size_alloc] at e
    rw [e] at hg'
    injection hg' with hg'
    exact .inr (by omega)
theorem take_byte {l : Bytes} {k : Nat} {b : UInt8} (h : l[k]? = some b) : l.take (k + 1) = l.take k ++ [b] := by
  rw [List.take_add_one, h]; rfl
set_option maxHeartbeats 8000000 in
set_option maxRecDepth 100000 in
theorem rtext_calls {lv : Value} {l : List Int} {w : World} (hr : ReadPts w lv l) (hok : ∀ x ∈ l, okP x) (hl : l.length ≤ 16777216) :
    Calls Tryz.prog 76 #[lv] w fun e w' => e = .returned (.tuple #[.string ⟨(textOf l).toArray⟩, .int .i64 (-1)]) ∧ Below w.heap.size w w' := by
  obtain ⟨A, c, rfl, hc⟩ := read_addr hr
  have HC := Lib.hid hc
  obtain ⟨n, hn⟩ : ∃ n, l.length = n := ⟨_, rfl⟩
  have HN := Lib.hid hn
  have HTL : Hid (∀ i, (textOf (l.take i)).length ≤ 67108864) := Lib.hid (fun i => Nat.le_trans (text_take_le l i) (by omega))
  have HOK := Lib.hid hok
  have HT := Lib.hid (fun (i : Nat) (x : Int) (hx : l[i]? = some x) => text_take hx)
  rw [hn] at hl ⊢
  clear hc hr hn hok
  go_enter Tryz.func76, Tryz.ntmps76
  go_wp2
  go_loopg [4, 5] n (fun gk vb vi wr => ∃ (i : Nat), vi = .int .i64 i ∧ i ≤ n ∧ n - i ≤ gk ∧ Hid (OwnB w.heap.size wr vb (textOf (l.take i)) ∧ Below w.heap.size w wr))
  case atStart => exact ⟨0, rfl, Nat.zero_le _, by omega, Lib.hid ⟨OwnB.nil _ _, Below.refl _ _⟩⟩
  case round =>
    obtain ⟨i, rfl, hi, hg1, HI⟩ := hrel
    by_cases hlt : i < n
    · have hz : (i : Int) < (n : Int) := by omega
      obtain ⟨x, hx⟩ : ∃ x, l[i]? = some x := ⟨_, List.getElem?_eq_getElem (by rw [HN.out]; exact hlt)⟩
      obtain ⟨b, off, rfl, cx0⟩ := HC.out i x hx
      have cx := Sb.later_cell HI.out.2 cx0
      have HTT := Lib.hid (HT.out i x hx)
      have hxo := HOK.out x (List.mem_of_getElem? hx)
      have hxb : 0 ≤ x ∧ x ≤ 1114367 := by
        rcases hxo with h | h
        · have := char_iff.1 h; omega
        · omega
      have e0 : wrap64 x = x := IntWalk.wrap64_in _ (by omega)
      have HPC := Lib.hid (fun (W : World) => point_calls x hxo W)
      have HBC := Lib.hid (fun (W : World) => rbytes_calls x hxo W)
      have HLN := Lib.hid (HTL.out i)
      have HE4 := Lib.hid (encP_len x)
      generalize encP x = eb at *
      obtain ⟨m, hm⟩ : ∃ m, eb.length = m := ⟨_, rfl⟩
      have HM := Lib.hid hm
      have hm4 : m ≤ 4 := by rw [← hm]; exact HE4.out.2
      clear cx0 hx hxo hm
      go_wp2_with (first
        | (go_at_call 118; (with_reducible refine (HPC.out _).mono ?_); rintro e w2 ⟨rfl, rfl⟩)
        | (go_at_call 80; (with_reducible refine (HBC.out _).mono ?_); rintro e w3 ⟨m3, rfl, ⟨hm3, hc3⟩, hb3⟩; obtain rfl : m3 = m := (by rw [← hm3, HM.out]); have HC3 := Lib.hid hc3; have HB3 := Lib.hid hb3; clear hc3 hb3 hm3))
      have HO3 : Hid (OwnB w.heap.size w3 u4 (textOf (l.take i))) := Lib.hid (Rowl.own_later HI.out.1 HB3.out)
      have HV4 : Hid (∀ g, u4.ownBlock = some g → w.heap.size ≤ g ∧ g < w2.heap.size) := Lib.hid (World.ownsRow.lt HI.out.1)
      have HBW := Lib.hid (bl_then HI.out.2 HB3.out)
      have HG2 : Hid (w.heap.size ≤ w2.heap.size) := Lib.hid HI.out.2.size
      obtain ⟨g2, hg2⟩ : ∃ g2, w2.heap.size = g2 := ⟨_, rfl⟩
      rw [hg2] at HC3 HV4 HG2 ⊢
      have hlt2 : Hid (∀ (j : Nat) (y : UInt8), eb[j]? = some y → g2 < w3.heap.size) := Lib.hid (fun j y hj => World.block_lt_of_cell? _ _ (HC3.out j y hj))
      obtain ⟨tx, htx⟩ : ∃ tx, textOf (l.take i) = tx := ⟨_, rfl⟩
      rw [htx] at HO3 HTT HLN
      clear htx hg2 HI cx
      go_loopg [4, 7] m3 (fun gk vb vk wk => ∃ (k : Nat), vk = .int .i64 k ∧ k ≤ m3 ∧ m3 - k ≤ gk ∧ Hid (OwnB w.heap.size wk vb (tx ++ eb.take k) ∧ Mvd w3 wk u4 vb))
      case atStart => exact ⟨0, rfl, Nat.zero_le _, by omega, Lib.hid ⟨by rw [List.take_zero, List.append_nil]; exact HO3.out, Mvd.refl _ _⟩⟩
      case round =>
        obtain ⟨k, rfl, hk, hg4, HK⟩ := hrel
        have HWZ : Hid (w.heap.size ≤ wr.heap.size) := Lib.hid (Nat.le_trans HBW.out.size HK.out.2.size)
        by_cases hkl : k < m3
        · have hkz : (k : Int) < (m3 : Int) := by omega
          obtain ⟨y, hy⟩ : ∃ y, eb[k]? = some y := ⟨_, List.getElem?_eq_getElem (by rw [HM.out]; exact hkl)⟩
          have hgl := hlt2.out k y hy
          have cy : wr.cell? ⟨g2, k, none⟩ = some (.int .u8 (y.toNat : Int)) := (World.cell?_of_block (a := ⟨g2, k, none⟩) (HK.out.2.block g2 hgl (fun e => by have := (HV4.out g2 e).2; omega))).trans (HC3.out k y hy)
          have HTK := Lib.hid (take_byte hy)
          have HLK : Hid ((tx ++ eb.take k).length ≤ 1073741824) := Lib.hid (by rw [List.length_append, List.length_take]; have := HLN.out; omega)
          obtain ⟨yi, hyi⟩ : ∃ yi : Int, (y.toNat : Int) = yi := ⟨_, rfl⟩
          rw [hyi] at cy
          have HYI := Lib.hid hyi.symm
          clear hy hyi
          go_wp2_with (at_builtin; refine wpList_append_byte_mvd (b := y) HYI.out rfl _ _ rfl w.heap.size _ (tx ++ eb.take k) rfl HK.out.1 rfl HLK.out HWZ.out ?_; intro v5 w5 ho5 hm5; have HO5 := Lib.hid ho5; have HM5 := Lib.hid (HK.out.2.trans hm5); clear ho5 hm5)
          go_roundg (m3 - (k + 1))
          case rel => exact ⟨k + 1, by go_num, by omega, by omega, Lib.hid ⟨by rw [HTK.out, ← List.append_assoc]; exact HO5.out, HM5.out⟩⟩
          case measure => omega
        · obtain rfl : k = m3 := by omega
          have HOF := Lib.hid HK.out.1
          rw [← HM.out, List.take_of_length_le (Nat.le_refl _), ← HTT.out] at HOF
          have HBF : Hid (Below w.heap.size w wr) := Lib.hid (HBW.out.trans (HK.out.2.below HBW.out.size (fun g hg => (HV4.out g hg).1)))
          go_wp2
          go_roundg (n - (i + 1))
          case rel => exact ⟨i + 1, by go_num, by omega, by omega, Lib.hid ⟨HOF.out, HBF.out⟩⟩
          case measure => omega
    · have hin : i = l.length := by rw [HN.out]; omega
      have HO : Hid (OwnB w.heap.size wr u4 (textOf l)) := Lib.hid (by have := HI.out.1; rw [hin, List.take_of_length_le (Nat.le_refl _)] at this; exact this)
      have hz : ¬ (i : Int) < (n : Int) := by omega
      have hcv := bytes_conv HO.out
      clear hin hlt
      go_wp2
      go_ret2
      exact ⟨rfl, HI.out.2⟩
end Go.Proofs.YtikpkjpnehkbfaaGreatDoor.Nw
namespace Go.Proofs.YtikpkjpnehkbfaaGreatDoor.Nw
open Go Go.RowKit Go.Shelf Go.Proofs.YtikpkjpnehkbfaaGreatDoor.Sp Go.Proofs.YtikpkjpnehkbfaaGreatDoor.Pr Go.Proofs.YtikpkjpnehkbfaaGreatDoor.Rf Go.Proofs.YtikpkjpnehkbfaaGreatDoor.Nm Go.Proofs.YtikpkjpnehkbfaaGreatDoor.Sb Go.Proofs.YtikpkjpnehkbfaaGreatDoor.Ut
set_option linter.unusedSimpArgs false
set_option linter.unusedVariables false
theorem byI_at (s : ByteArray) (i : Nat) (h : i < s.size) : ((s[i]'h).toNat : Int) = byI s.data.toList i := by
  unfold byI
  rw [Lib.getD_at s i h]
abbrev NextOut (s : ByteArray) (i : Nat) (W : World) (e : Ending) (w' : World) : Prop := e = .returned (.tuple #[.int .i32 (ptL (s.data.toList.drop i)), .int .i64 (wid s.data.toList i)]) ∧ w' = W
set_option maxHeartbeats 4000000 in
set_option maxRecDepth 100000 in
theorem rnext_calls (s : ByteArray) (i : Nat) (hs : s.size ≤ 1073741824) (hi : i < s.size) (W : World) : Calls Tryz.prog 117 #[.string s, .int .i64 (i : Int)] W (NextOut s i W) := by
  have hil : i < s.data.toList.length := by rw [← Lib.size_eq]; exact hi
  have hb0 := byI_at s i hi
  have hbl := byI_le s.data.toList i
  have hlg := long_le (byI s.data.toList i) hbl.1 hbl.2
  have HLG := Lib.hid (fun W => long_calls (byI s.data.toList i) hbl.1 hbl.2 W)
  obtain ⟨n, hn⟩ : ∃ n : Nat, longN (byI s.data.toList i) = (n : Int) := ⟨(longN (byI s.data.toList i)).toNat, by omega⟩
  have hn4 : n ≤ 4 := by omega
  have HN := Lib.hid hn
  have HSZ := Lib.hid (Lib.size_eq s)
  have HPT := Lib.hid (next_pt hil)
  have h0i : ¬ (i : Int) < 0 := by omega
  have hiz : (i : Int) < (s.size : Int) := by omega
  have hiz2 : ¬ (s.size : Int) ≤ (i : Int) := by omega
  have hi0 : (0 : Int) ≤ (i : Int) := by omega
  have HBV := Lib.hid hlg
  have HIL := Lib.hid hil
  rw [hn] at HLG
  obtain ⟨v0, hv0⟩ : ∃ v, longV (byI s.data.toList i) = v := ⟨_, rfl⟩
  rw [hv0] at HLG
  have HV0 := Lib.hid hv0
  have hv1 : 0 ≤ v0 ∧ v0 ≤ 127 := by omega
  -- the way out of an ill-formed byte
  have hp1 : ∀ b : Int, 0 ≤ b → b ≤ 255 → IntKind.i32.wrap (1114112 + b) = 1114112 + b := fun b h1 h2 => IntWalk.i32_in _ (by omega)
  have hp2 := hp1 _ hbl.1 hbl.2
  have hp3 : IntKind.i64.wrap (1114112 + byI s.data.toList i) = 1114112 + byI s.data.toList i := IntWalk.i64_in _ (by omega)
  have hp4 : wrap64 (byI s.data.toList i) = byI s.data.toList i := IntWalk.wrap64_in _ (by omega)
  obtain ⟨b0, hb00⟩ : ∃ b0, byI s.data.toList i = b0 := ⟨_, rfl⟩
  rw [hb00] at hb0 hp2 hp3 hp4 HLG
  have HB00 := Lib.hid hb00
  clear hp1 hbl hlg hn hv0 hil hb00
  by_cases hz : n = 0
  · have HBD : Hid (BadD s.data.toList i) := Lib.hid (next_none HIL.out (by rw [HN.out, hz]; rfl))
    subst hz
    go_enter Tryz.func117, Tryz.ntmps117
    go_wp2_with (go_at_call 150; (with_reducible refine (HLG.out _).mono ?_); rintro e w' ⟨rfl, rfl⟩)
    refine wp_loop_rounds 1 ?_
    rw [rounds_succ]
    go_wp2
    go_ret2
    exact ⟨by rw [(HPT.out.1 HBD.out).1, (HPT.out.1 HBD.out).2, HB00.out]; rfl, rfl⟩
  · have hn1 : 1 ≤ n := by omega
    have hnz : (0 : Int) < (n : Int) := by omega
    have e1 : IntKind.i64.wrap ((i : Int) + (n : Int)) = (i : Int) + (n : Int) := IntWalk.i64_in _ (by omega)
    by_cases hfit : i + n ≤ s.size
    · have hfz : (i : Int) + (n : Int) ≤ (s.size : Int) := by omega
      have HLE := Lib.hid (fun W => least_calls n hn1 hn4 W)
      have HCH := Lib.hid (fun (v : Int) W => rchar_calls v W)
      have HFL : Hid (i + n ≤ s.data.toList.length) := Lib.hid (by rw [← HSZ.out]; exact hfit)
      have HVL : Hid (2 ≤ n → ∀ k, k ≤ 3 → Cont s.data.toList i (k + 1) → 0 ≤ valA s.data.toList i k ∧ valA s.data.toList i k ≤ 8388607) := Lib.hid (fun h k hk hc => by
        have := val_le (l := s.data.toList) (i := i) (by rw [HN.out]; omega) k hk hc
        exact ⟨this.1, this.2.1⟩)
      go_enter Tryz.func117, Tryz.ntmps117
      go_wp2_with (go_at_call 150; (with_reducible refine (HLG.out _).mono ?_); rintro e w' ⟨rfl, rfl⟩)
      go_loopg [7, 8, 9] 5 (fun gk vv vok vk wr => ∃ (k : Nat) (ok : Bool) (v : Int), vk = .int .i64 k ∧ vok = .bool ok ∧ vv = .int .i64 v ∧ 1 ≤ k ∧ k ≤ 4 ∧ 5 - k ≤ gk ∧ wr = w' ∧ Hid ((ok = false ∧ BadD s.data.toList i) ∨ (ok = true ∧ k ≤ n ∧ v = valA s.data.toList i (k - 1) ∧ 0 ≤ v ∧ v ≤ 8388607 ∧ Cont s.data.toList i k)))
      case atStart => exact ⟨1, true, v0, rfl, rfl, rfl, Nat.le_refl _, by omega, by omega, rfl, Lib.hid (.inr ⟨rfl, hn1, HV0.out.symm, hv1.1, by omega, Cont.one _ _⟩)⟩
      case round =>
        obtain ⟨k, ok, v, rfl, rfl, rfl, hk1, hk4, hg1, rfl, HI⟩ := hrel
        rcases HI.out with ⟨rfl, hbad⟩ | ⟨rfl, hkn, hv, hv0, hv8, hcont⟩
        · have HBD := Lib.hid hbad
          clear hbad HI
          by_cases hkn : k < n
          · have hkz : (k : Int) < (n : Int) := by omega
            go_wp2
            go_ret2
            exact ⟨by rw [(HPT.out.1 HBD.out).1, (HPT.out.1 HBD.out).2, HB00.out]; rfl, rfl⟩
          · have hkz : ¬ (k : Int) < (n : Int) := by omega
            go_wp2
            go_ret2
            exact ⟨by rw [(HPT.out.1 HBD.out).1, (HPT.out.1 HBD.out).2, HB00.out]; rfl, rfl⟩
        · have HC := Lib.hid hcont
          have HVV := Lib.hid hv
          clear hcont hv HI
          by_cases hlt : k < n
          · have hkz : (k : Int) < (n : Int) := by omega
            have hik : i + k < s.size := by omega
            have hikz : (i : Int) + (k : Int) < (s.size : Int) := by omega
            have hik0 : (0 : Int) ≤ (i : Int) + (k : Int) := by omega
            have e2 : IntKind.i64.wrap ((i : Int) + (k : Int)) = (i : Int) + (k : Int) := IntWalk.i64_in _ (by omega)
            have hbk := byI_at s (i + k) hik
            have hbl := byI_le s.data.toList (i + k)
            obtain ⟨c, hc⟩ : ∃ c, byI s.data.toList (i + k) = c := ⟨_, rfl⟩
            rw [hc] at hbk hbl
            have HCC := Lib.hid hc
            have e3 : wrap64 c = c := IntWalk.wrap64_in _ (by omega)
            have e4 : IntKind.i64.wrap (v * 64) = v * 64 := IntWalk.i64_in _ (by omega)
            have e5 : IntKind.i64.wrap (v * 64 + c) = v * 64 + c := IntWalk.i64_in _ (by omega)
            have e6 : IntKind.i64.wrap (v * 64 + c - 128) = v * 64 + c - 128 := IntWalk.i64_in _ (by omega)
            have hk1' : (k : Int) + 1 ≤ 5 := by omega
            have HST := Lib.hid (fun (h : ¬ (128 ≤ c ∧ c < 192)) => next_stop (k := k) HIL.out hk1 (by rw [HN.out]; exact hkz) (by rw [HCC.out]; exact h))
            clear hc
            by_cases h1 : 128 ≤ c
            · by_cases h2 : c < 192
              · have HC2 := Lib.hid (HC.out.next (by rw [HCC.out]; exact ⟨h1, h2⟩))
                have HV2 : Hid (v * 64 + c - 128 = valA s.data.toList i (k + 1 - 1)) := Lib.hid (by
                  obtain ⟨j, rfl⟩ : ∃ j, k = j + 1 := ⟨k - 1, by omega⟩
                  simp only [Nat.add_sub_cancel] at *
                  rw [valA, HCC.out, ← HVV.out])
                have HB2 := Lib.hid (HVL.out (by omega) k (by omega) HC2.out)
                clear HST
                go_wp2
                go_roundg (4 - k)
                case rel => exact ⟨k + 1, true, _, by go_num, rfl, rfl, by omega, by omega, by omega, rfl, Lib.hid (.inr ⟨rfl, by omega, HV2.out, by have := HB2.out.1; rw [HV2.out]; simpa using this, by have := HB2.out.2; rw [HV2.out]; simpa using this, HC2.out⟩)⟩
                case measure => omega
              · have HBD := Lib.hid (HST.out (fun h => h2 h.2))
                clear HST
                go_wp2
                go_roundg (4 - k)
                case rel => exact ⟨k + 1, false, _, by go_num, rfl, rfl, by omega, by omega, by omega, rfl, Lib.hid (.inl ⟨rfl, HBD.out⟩)⟩
                case measure => omega
            · have HBD := Lib.hid (HST.out (fun h => h1 h.1))
              clear HST
              go_wp2
              go_roundg (4 - k)
              case rel => exact ⟨k + 1, false, _, by go_num, rfl, rfl, by omega, by omega, by omega, rfl, Lib.hid (.inl ⟨rfl, HBD.out⟩)⟩
              case measure => omega
          · have hkz : ¬ (k : Int) < (n : Int) := by omega
            obtain rfl : k = n := by omega
            have HLO := Lib.hid (next_low (l := s.data.toList) (i := i) HIL.out HN.out hk1 HC.out HFL.out)
            have HGO := Lib.hid (next_good (l := s.data.toList) (i := i) HIL.out HN.out hk1 HC.out HFL.out)
            rw [← HVV.out] at HLO HGO
            obtain ⟨ln, hln⟩ : ∃ ln, leastN (k : Int) = ln := ⟨_, rfl⟩
            rw [hln] at HLE HLO HGO
            clear hln
            by_cases h1 : v < ln
            · have HBD := Lib.hid (HLO.out (.inl h1))
              clear HLO HGO
              go_wp2_with (first
                | (go_at_call 151; (with_reducible refine (HLE.out _).mono ?_); rintro e w2 ⟨rfl, rfl⟩))
              go_ret2
              exact ⟨by rw [(HPT.out.1 HBD.out).1, (HPT.out.1 HBD.out).2, HB00.out]; rfl, rfl⟩
            · obtain ⟨b, hb⟩ : ∃ b, isChar v = b := ⟨_, rfl⟩
              have HCB := Lib.hid (HCH.out v)
              rw [hb] at HCB
              cases b
              · have HBD := Lib.hid (HLO.out (.inr hb))
                clear HLO HGO hb
                go_wp2_with (first
                  | (go_at_call 151; (with_reducible refine (HLE.out _).mono ?_); rintro e w2 ⟨rfl, rfl⟩)
                  | (go_at_call 152; (with_reducible refine (HCB.out _).mono ?_); rintro e w2 ⟨rfl, rfl⟩))
                go_ret2
                exact ⟨by rw [(HPT.out.1 HBD.out).1, (HPT.out.1 HBD.out).2, HB00.out]; rfl, rfl⟩
              · have HGD := Lib.hid (HGO.out h1 hb)
                have HVC := char_iff.1 hb
                have e7 : IntKind.i32.wrap v = v := IntWalk.i32_in _ (by omega)
                clear HLO HGO hb
                go_wp2_with (first
                  | (go_at_call 151; (with_reducible refine (HLE.out _).mono ?_); rintro e w2 ⟨rfl, rfl⟩)
                  | (go_at_call 152; (with_reducible refine (HCB.out _).mono ?_); rintro e w2 ⟨rfl, rfl⟩))
                go_ret2
                exact ⟨by rw [HPT.out.2 HGD.out.2]; unfold wid; rw [HGD.out.1]; simp only [Int.toNat_of_nonneg hv0]; rfl, rfl⟩
    · have HBD : Hid (BadD s.data.toList i) := Lib.hid (next_short HIL.out (by rw [HN.out]; omega) (by rw [HN.out, ← HSZ.out]; omega))
      have hfz : ¬ (i : Int) + (n : Int) ≤ (s.size : Int) := by omega
      have hk1 : (1 : Int) < (n : Int) := by omega
      · go_enter Tryz.func117, Tryz.ntmps117
        go_wp2_with (go_at_call 150; (with_reducible refine (HLG.out _).mono ?_); rintro e w' ⟨rfl, rfl⟩)
        refine wp_loop_rounds 1 ?_
        rw [rounds_succ]
        go_wp2
        go_ret2
        exact ⟨by rw [(HPT.out.1 HBD.out).1, (HPT.out.1 HBD.out).2, HB00.out]; rfl, rfl⟩
set_option maxHeartbeats 4000000 in
set_option maxRecDepth 100000 in
theorem rof_calls (s : ByteArray) (hs : s.size ≤ 1073741824) (w : World) : Calls Tryz.prog 75 #[.string s] w fun e w' => ∃ v, e = .returned v ∧ OwnPts w.heap.size w' v (ptsOf s.data.toList) ∧ Below w.heap.size w w' := by
  have HSZ := Lib.hid (Lib.size_eq s)
  have HLP : Hid ((ptsOf s.data.toList).length ≤ 1073741824) := Lib.hid (Nat.le_trans (ptsL_len _) (by rw [← Lib.size_eq]; exact hs))
  go_enter Tryz.func75, Tryz.ntmps75
  go_wp2
  go_loopg [3, 4] s.size (fun gk vo va wr => ∃ (x : Nat) (P : List Int), va = .int .i64 x ∧ x ≤ s.size ∧ s.size ≤ x + gk ∧ Hid (ptsOf s.data.toList = P ++ ptsOf (s.data.toList.drop x) ∧ OwnPts w.heap.size wr vo P ∧ Below w.heap.size w wr))
  case atStart => exact ⟨0, [], rfl, Nat.zero_le _, by omega, Lib.hid ⟨rfl, ⟨rfl, .inl ⟨rfl, rfl⟩⟩, Below.refl _ _⟩⟩
  case round =>
    obtain ⟨x, P, rfl, hx, hfu, HI⟩ := hrel
    by_cases hlt : x < s.size
    · have hxz : (x : Int) < (s.size : Int) := by omega
      have hxl : x < s.data.toList.length := by rw [← Lib.size_eq]; exact hlt
      have HNX := Lib.hid (fun W => rnext_calls s x hs hlt W)
      have hwl := wid_le hxl
      rw [← Lib.size_eq] at hwl
      have hwp := wid_pos s.data.toList x
      have HST := Lib.hid (step_at hxl).1
      have HPL : Hid (P.length ≤ 1073741824) := Lib.hid (by have := congrArg List.length HI.out.1; rw [List.length_append] at this; have := HLP.out; omega)
      obtain ⟨wd, hwd⟩ : ∃ wd, wid s.data.toList x = wd := ⟨_, rfl⟩
      obtain ⟨pt, hpt⟩ : ∃ pt, ptL (s.data.toList.drop x) = pt := ⟨_, rfl⟩
      unfold NextOut at HNX
      rw [hwd] at hwl hwp HST HNX
      rw [hpt] at HST HNX
      have e1 : IntKind.i64.wrap ((x : Int) + (wd : Int)) = (x : Int) + (wd : Int) := IntWalk.i64_in _ (by omega)
      clear hxl hwd hpt
      go_wp2_with (first
        | (go_at_call 117; (with_reducible refine (HNX.out _).mono ?_); rintro e w2 ⟨rfl, rfl⟩)
        | (at_builtin; refine wpList_append_mvd rfl _ _ rfl w.heap.size _ P rfl HI.out.2.1 rfl HPL.out HI.out.2.2.size ?_; rintro v' w4 ho4 hm4 -; have HO4 := Lib.hid ho4; have HM4 := Lib.hid (HI.out.2.2.trans (hm4.below HI.out.2.2.size (fun g hg => (own_at HI.out.2.1 g hg).1))); clear ho4 hm4))
      go_roundg (s.size - (x + wd))
      case rel => exact ⟨x + wd, P ++ [pt], by go_num, by omega, by omega, Lib.hid ⟨by rw [List.append_assoc]; exact HI.out.1.trans (by rw [HST.out]; rfl), HO4.out, HM4.out⟩⟩
      case measure => omega
    · have hxz : ¬ (x : Int) < (s.size : Int) := by omega
      have HE : Hid (ptsOf s.data.toList = P) := Lib.hid (by
        have := HI.out.1
        rw [List.drop_eq_nil_of_le (by rw [← Lib.size_eq]; omega), pts_nil, List.append_nil] at this
        exact this)
      go_wp2
      go_ret
      exact ⟨_, rfl, by rw [HE.out]; exact HI.out.2.1, HI.out.2.2⟩
abbrev ROfAt (s : ByteArray) (l : List Int) : Prop := ∀ W, Calls Tryz.prog 75 #[.string s] W (RowBack l W)
theorem rofAt {s : ByteArray} (hs : s.size ≤ 1073741824) {l : List Int} (h : ptsOf s.data.toList = l) : ROfAt s l := fun W => (rof_calls s hs W).mono fun e w' h' => by rw [h] at h'; exact rowAt_own h'
end Go.Proofs.YtikpkjpnehkbfaaGreatDoor.Nw
