/- Numbers of base 16: what strconv.ParseInt answers to four, five or six digits of base 16. -/
import Derived.Test.YtikpkjpnehkbfaaGreatDoorNrBTell
import Derived.Lib.Strings
import Derived.Lib.Walk
import Derived.Lib.ConvBytes
import Derived.Lib.ParseIntBMem
import Derived.Lib.AtoiErrMem
import Derived.Laws.Strings3
import Derived.Laws.Closers25
import Derived.Laws.Closers25b
import Derived.BigCall
import Derived.BigGuard
import Derived.Test.YtikpkjpnehkbfaaGreatDoorNrShelf
import Derived.Shelf.Strings.SlTrimAscii
import Derived.BigQuiet
import Derived.Handy
import Derived.StillTailTactics
import Derived.BigRegion
import Derived.Deep.QuietTactic
set_option linter.unusedSimpArgs false
namespace Go.Proofs.YtikpkjpnehkbfaaGreatDoor.Pr
open Go Go.RowKit Go.Shelf Go.Proofs.YtikpkjpnehkbfaaGreatDoor.Sp Go.Proofs.YtikpkjpnehkbfaaGreatDoor.Mapl Go.Proofs.YtikpkjpnehkbfaaGreatDoor.Rowl
theorem lower_big (c : Nat) (h : c = 65 ∨ c = 66 ∨ c = 67 ∨ c = 68 ∨ c = 69 ∨ c = 70) (w : World) : Calls Tryz.prog 205 #[.int .u8 (c : Int)] w fun e w' => e = .returned (.int .u8 ((c + 32 : Nat) : Int)) ∧ w' = w := by
  rcases h with rfl | rfl | rfl | rfl | rfl | rfl
  all_goals
    go_enter Tryz.func205, Tryz.ntmps205
    go_wp2
    go_ret
    exact ⟨rfl, rfl⟩
theorem lower_small (c : Nat) (h : c = 97 ∨ c = 98 ∨ c = 99 ∨ c = 100 ∨ c = 101 ∨ c = 102) (w : World) : Calls Tryz.prog 205 #[.int .u8 (c : Int)] w fun e w' => e = .returned (.int .u8 ((c : Nat) : Int)) ∧ w' = w := by
  rcases h with rfl | rfl | rfl | rfl | rfl | rfl
  all_goals
    go_enter Tryz.func205, Tryz.ntmps205
    go_wp2
    go_ret
    exact ⟨rfl, rfl⟩
theorem hexVal_cases {c : UInt8} {d : Nat} (h : hexVal c = some d) : (48 ≤ c.toNat ∧ c.toNat ≤ 57 ∧ d = c.toNat - 48) ∨ (97 ≤ c.toNat ∧ c.toNat ≤ 102 ∧ d = c.toNat - 87) ∨ (65 ≤ c.toNat ∧ c.toNat ≤ 70 ∧ d = c.toNat - 55) := by
  unfold hexVal at h
  simp only [UInt8.le_iff_toNat_le, UInt8.reduceToNat] at h
  split at h
  · rename_i k; injection h with h; exact .inl ⟨k.1, k.2, h.symm⟩
  · split at h
    · rename_i k; injection h with h; exact .inr (.inl ⟨k.1, k.2, h.symm⟩)
    · split at h
      · rename_i k; injection h with h; exact .inr (.inr ⟨k.1, k.2, h.symm⟩)
      · cases h
theorem hexVal_lt {c : UInt8} {d : Nat} (h : hexVal c = some d) : d < 16 := by rcases hexVal_cases h with ⟨_, _, rfl⟩ | ⟨_, _, rfl⟩ | ⟨_, _, rfl⟩ <;> omega
set_option maxHeartbeats 32000000 in
set_option maxRecDepth 100000 in
theorem parseUint_calls (t : ByteArray) (n : Nat) (hh : hexGo t.data.toList 0 = some n) (h4 : 1 ≤ t.size) (h6 : t.size ≤ 6) (w : World) :
    Calls Tryz.prog 191 #[.string t, .int .i64 16, .int .i64 32] w fun e w' => e = .returned (.tuple #[.int .u64 (n : Int), .nilIface]) ∧ Below w.heap.size w w' := by
  have hemp : t.toList.isEmpty = false := by
    rw [← decide_eq_emptyBytes]
    exact decide_eq_false (fun h => by rw [h] at h4; simp [ByteArray.size] at h4)
  have hcv := Lib.run_convert_string_bytes (P := Tryz.prog) w 9 119 5 t (u := .string) Tryz.underlying9 Tryz.underlying119 Tryz.underlying5
  have hB : ∀ j, j < t.size → (Lib.bytesWorld w 5 t).cell? ⟨w.heap.size, j, none⟩ = some (.int .u8 (t.data.toList.getD j 0).toNat) := fun j hj => Lib.bytesWorld_cell w 5 t j hj
  have hbelow : Below w.heap.size w (Lib.bytesWorld w 5 t) := Lib.bytesWorld_below w 5 t
  obtain ⟨W1, hW1⟩ : ∃ W1, W1 = Lib.bytesWorld w 5 t := ⟨_, rfl⟩
  rw [← hW1] at hcv hB hbelow
  clear hW1
  obtain ⟨bs, hL⟩ : ∃ bs, bs = t.data.toList := ⟨_, rfl⟩
  have hLn : bs.length = t.size := by rw [hL, Lib.size_eq]
  rw [← hL] at hB hh
  clear hL
  have hmv : IntKind.u64.wrap (IntKind.u64.wrap 4294967296 - 1) = 4294967295 := by
    rw [IntKind.wrap_u64, IntKind.wrap_u64]
    decide
  have hb2 := Lib.hid hbelow
  clear hbelow
  go_enter Tryz.func191, Tryz.ntmps191
  go_wp2
  go_loop [12, 13, 101] (fun vu vn vi => ∃ (k acc : Nat) (a : Int), vu = .bool false ∧ vn = .int .u64 a ∧ vi = .int .i64 k ∧ k ≤ t.size ∧ Hid (a = (acc : Int) ∧ acc < 16 ^ k ∧ hexGo (bs.drop k) acc = some n))
    (fun _ _ vi => t.size - (intOf vi).toNat)
  case atStart => exact ⟨0, 0, 0, rfl, rfl, rfl, by omega, rfl, by simp, by simpa using hh⟩
  case round =>
    obtain ⟨k, acc, a, rfl, rfl, rfl, hk, hh⟩ := hrel
    obtain ⟨ha, hacc, hdec⟩ := hh.out
    clear hh
    by_cases hkn : k < t.size
    · have hc := hB k hkn
      have hdrop : bs.drop k = bs[k]'(by omega) :: bs.drop (k + 1) := List.drop_eq_getElem_cons (by omega)
      have hget : bs.getD k 0 = bs[k]'(by omega) := by simp [List.getD, List.getElem?_eq_getElem (show k < bs.length by omega)]
      rw [hdrop] at hdec
      rw [hget] at hc
      generalize bs[k]'(by omega) = c at hc hdec
      have hpow : 16 ^ k ≤ 16 ^ 5 := Nat.pow_le_pow_right (by omega) (by omega)
      have a1 : acc < 1048576 := by omega
      have hpow2 : 16 ^ (k + 1) = 16 ^ k * 16 := Nat.pow_succ ..
      simp only [hexGo] at hdec
      cases hd : hexVal c with
      | none => rw [hd] at hdec; cases hdec
      | some d =>
        rw [hd] at hdec
        simp only at hdec
        have hd16 := hexVal_lt hd
        have HN : Hid (a * 16 + (d : Int) = ((16 * acc + d : Nat) : Int) ∧ 16 * acc + d < 16 ^ (k + 1) ∧ hexGo (bs.drop (k + 1)) (16 * acc + d) = some n) := Lib.hid ⟨by omega, by omega, hdec⟩
        have hcs := hexVal_cases hd
        clear hpow hpow2 hdec hd hB hdrop hget hacc
        have a0 : 0 ≤ a := by omega
        have a2 : a < 1048576 := by omega
        clear ha a1
        rcases hcs with ⟨c1, c2, rfl⟩ | ⟨c1, c2, rfl⟩ | ⟨c1, c2, hde⟩
        · rw [show ((c.toNat - 48 : Nat) : Int) = (c.toNat : Int) - 48 by omega] at HN
          go_wp2
          exact ⟨⟨k + 1, 16 * acc + (c.toNat - 48), a * 16 + ((c.toNat : Int) - 48), rfl, rfl, rfl, by omega, HN⟩, by simp [intOf]; omega⟩
        · rw [show ((c.toNat - 87 : Nat) : Int) = (c.toNat : Int) - 97 + 10 by omega] at HN
          have hlow := Lib.hid (fun W => lower_small c.toNat (by omega) W)
          go_wp2_with (go_at_call 205; refine (hlow.out _).mono ?_; rintro e w' ⟨rfl, rfl⟩)
          exact ⟨⟨k + 1, 16 * acc + (c.toNat - 87), a * 16 + ((c.toNat : Int) - 97 + 10), rfl, rfl, rfl, by omega, HN⟩, by simp [intOf]; omega⟩
        · have hlow := Lib.hid (fun W => lower_big c.toNat (by omega) W)
          obtain ⟨c', hc'⟩ : ∃ c', c' = c.toNat + 32 := ⟨_, rfl⟩
          have c3 : 97 ≤ c' := by omega
          have c4 : c' ≤ 102 := by omega
          rw [show (d : Int) = (c' : Int) - 97 + 10 by omega] at HN
          rw [← hc'] at hlow
          clear hde hc'
          go_wp2_with (go_at_call 205; refine (hlow.out _).mono ?_; rintro e w' ⟨rfl, rfl⟩)
          exact ⟨⟨k + 1, 16 * acc + d, a * 16 + ((c' : Int) - 97 + 10), rfl, rfl, rfl, by omega, HN⟩, by simp [intOf]; omega⟩
    · have hkk : k = t.size := by omega
      subst hkk
      rw [List.drop_eq_nil_of_le (by omega)] at hdec
      simp only [hexGo, Option.some.injEq] at hdec
      subst hdec
      subst ha
      clear hacc
      go_wp2
      go_ret2
      exact ⟨rfl, hb2.out⟩
end Go.Proofs.YtikpkjpnehkbfaaGreatDoor.Pr
namespace Go.Proofs.YtikpkjpnehkbfaaGreatDoor.Pr
open Go Go.RowKit Go.Shelf Go.Proofs.YtikpkjpnehkbfaaGreatDoor.Sp Go.Proofs.YtikpkjpnehkbfaaGreatDoor.Mapl Go.Proofs.YtikpkjpnehkbfaaGreatDoor.Rowl
theorem hexGo_lt : ∀ (l : List UInt8) (a n k : Nat), hexGo l a = some n → a < 16 ^ k → n < 16 ^ (k + l.length)
  | [], a, n, k, h, ha => by
    simp only [hexGo, Option.some.injEq] at h
    subst h
    simpa using ha
  | c :: l, a, n, k, h, ha => by
    simp only [hexGo] at h
    cases hd : hexVal c with
    | none => rw [hd] at h; cases h
    | some d =>
      rw [hd] at h
      have := hexVal_lt hd
      have e : 16 ^ (k + 1) = 16 ^ k * 16 := Nat.pow_succ ..
      have := hexGo_lt l (16 * a + d) n (k + 1) h (by omega)
      rw [List.length_cons, show k + (l.length + 1) = k + 1 + l.length by omega]
      exact this
theorem hexGo_small {t : ByteArray} {n : Nat} (hh : hexGo t.data.toList 0 = some n) (h6 : t.size ≤ 6) : n < 16777216 := by
  have h := hexGo_lt _ 0 n 0 hh (by simp)
  rw [Nat.zero_add, ← Lib.size_eq] at h
  have : 16 ^ t.size ≤ 16 ^ 6 := Nat.pow_le_pow_right (by omega) h6
  omega
set_option maxRecDepth 100000 in
set_option maxHeartbeats 4000000 in
theorem parseIntIn_calls (t : ByteArray) (n : Nat) (hh : hexGo t.data.toList 0 = some n) (h4 : 1 ≤ t.size) (h6 : t.size ≤ 6) (w : World) :
    Calls Tryz.prog 168 #[.string t, .int .i64 16, .int .i64 32] w fun e w' => e = .returned (.tuple #[.int .i64 (n : Int), .nilIface]) ∧ Below w.heap.size w w' := by
  have hpu := Lib.hid (parseUint_calls t n hh h4 h6 w)
  have hn := hexGo_small hh h6
  have hemp : t.toList.isEmpty = false := by
    rw [← decide_eq_emptyBytes]
    exact decide_eq_false (fun h => by rw [h] at h4; simp [ByteArray.size] at h4)
  have hpos : 0 < t.size := by omega
  obtain ⟨c0, r, hL⟩ : ∃ c0 r, t.data.toList = c0 :: r := by
    cases h : t.data.toList with
    | nil => exact absurd (by rw [Lib.size_eq, h]; rfl : t.size = 0) (by omega)
    | cons c0 r => exact ⟨c0, r, rfl⟩
  have hs0 : t[0]'hpos = c0 := by have := Lib.getD_at t 0 hpos; rw [hL] at this; exact this
  have hc0 : c0.toNat ≠ 43 ∧ c0.toNat ≠ 45 := by
    rw [hL] at hh
    simp only [hexGo] at hh
    cases hd : hexVal c0 with
    | none => rw [hd] at hh; cases hh
    | some d => rcases hexVal_cases hd with h | h | h <;> omega
  have i43 : ¬ (c0.toNat : Int) = 43 := by omega
  have i45 : ¬ (c0.toNat : Int) = 45 := by omega
  obtain ⟨a, ha⟩ : ∃ a : Int, a = (n : Int) := ⟨_, rfl⟩
  have a0 : 0 ≤ a := by omega
  have a1 : a < 16777216 := by omega
  rw [← ha] at hpu ⊢
  clear hh hL hc0 ha hn
  go_enter Tryz.func168, Tryz.ntmps168
  go_wp2_with (go_at_call 191; refine hpu.out.mono ?_; rintro e w1 ⟨rfl, hb⟩)
  go_wp2
  go_ret2
  exact ⟨rfl, hb⟩
theorem parseInt_calls (t : ByteArray) (n : Nat) (hh : hexGo t.data.toList 0 = some n) (h4 : 1 ≤ t.size) (h6 : t.size ≤ 6) (w : World) :
    Calls Tryz.prog 188 #[.string t, .int .i64 16, .int .i64 32] w fun e w' => e = .returned (.tuple #[.int .i64 (n : Int), .nilIface]) ∧ Below w.heap.size w w' := by
  have hpu := Lib.hid (parseIntIn_calls t n hh h4 h6 w)
  generalize (n : Int) = a at *
  clear hh h4 h6
  go_enter Tryz.func188, Tryz.ntmps188
  go_wp2_with (go_at_call 168; refine hpu.out.mono ?_; rintro e w1 ⟨rfl, hb⟩)
  go_ret2
  exact ⟨rfl, hb⟩
end Go.Proofs.YtikpkjpnehkbfaaGreatDoor.Pr
namespace Go.Proofs.YtikpkjpnehkbfaaGreatDoor.Pr
open Go Go.RowKit Go.Shelf Go.Proofs.YtikpkjpnehkbfaaGreatDoor.Sp
def hexSet : List UInt8 := [48, 49, 50, 51, 52, 53, 54, 55, 56, 57, 97, 98, 99, 100, 101, 102, 65, 66, 67, 68, 69, 70]
theorem hexSet_val (c : UInt8) : hexSet.contains c = (hexVal c).isSome := by
  have h : ∀ n : Fin 256, hexSet.contains (UInt8.ofNat n.val) = (hexVal (UInt8.ofNat n.val)).isSome := by decide +kernel
  have := h ⟨c.toNat, c.toNat_lt⟩
  simpa using this
theorem dropWhile_nil (p : UInt8 → Bool) : ∀ l : List UInt8, l.dropWhile p = [] ↔ ∀ c ∈ l, p c = true
  | [] => by simp
  | c :: l => by
    rw [List.dropWhile_cons]
    cases hp : p c with
    | true => simpa [hp] using dropWhile_nil p l
    | false => simp [hp]
theorem trim_nil (l : List UInt8) : Lib.trimS l hexSet = [] ↔ ∀ c ∈ l, (hexVal c).isSome = true := by
  unfold Lib.trimS Lib.trimLeftS Lib.trimRightS
  rw [dropWhile_nil]
  simp only [hexSet_val]
  constructor
  · intro h
    have h2 : l.reverse.dropWhile (fun x => (hexVal x).isSome) = [] := by
      cases hd : l.reverse.dropWhile (fun x => (hexVal x).isSome) with
      | nil => rfl
      | cons c r =>
        have hn := List.head_dropWhile_not (fun x => (hexVal x).isSome) (l := l.reverse) (by rw [hd]; simp)
        have hc := h c (by rw [hd]; simp)
        simp only [hd, List.head_cons] at hn
        rw [hn] at hc
        cases hc
    rw [dropWhile_nil] at h2
    intro c hc
    exact h2 c (by simpa using hc)
  · intro h
    have h2 : l.reverse.dropWhile (fun x => (hexVal x).isSome) = [] := by
      rw [dropWhile_nil]
      intro c hc
      exact h c (by simpa using hc)
    rw [h2]
    simp
theorem hexGo_some : ∀ (l : List UInt8) (a : Nat), (hexGo l a).isSome = true ↔ ∀ c ∈ l, (hexVal c).isSome = true
  | [], a => by simp [hexGo]
  | c :: l, a => by
    simp only [hexGo, List.forall_mem_cons]
    cases hd : hexVal c with
    | none => simp
    | some d => simpa using hexGo_some l (16 * a + d)
def numOut : Option Int → Value
  | some n => .tuple #[.int .i32 n, .bool true]
  | none => .tuple #[.int .i32 0, .bool false]
theorem number_calls (s : ByteArray) (hs : s.size ≤ 4294967280) (w : World) : Calls Tryz.prog 164 #[.string s] w fun e w' => e = .returned (numOut (numberOf s.data.toList)) ∧ Below w.heap.size w w' := by
  have hlen : s.data.toList.length = s.size := by rw [Lib.size_eq]
  have ht := Lib.hid (Any.strings_Trim_laid Tryz.lays160 (by kernel_rfl) s ⟨hexSet.toArray⟩ w (by omega) (by decide) (ascii_of_all (by decide)))
  by_cases h4 : s.size < 4
  · have e : numberOf s.data.toList = none := by unfold numberOf; rw [if_neg (by omega)]
    rw [e]
    clear ht e hlen
    go_enter Tryz.func164, Tryz.ntmps164
    go_wp2
    go_ret2
    exact ⟨rfl, Below.refl _ _⟩
  by_cases h6 : 6 < s.size
  · have e : numberOf s.data.toList = none := by unfold numberOf; rw [if_neg (by omega)]
    rw [e]
    clear ht e hlen
    go_enter Tryz.func164, Tryz.ntmps164
    go_wp2
    go_ret2
    exact ⟨rfl, Below.refl _ _⟩
  have e : numberOf s.data.toList = (hexGo s.data.toList 0).map Int.ofNat := by unfold numberOf; rw [if_pos (by omega)]
  rw [e]
  cases hn : hexGo s.data.toList 0 with
  | none =>
    have hne : Lib.trimS s.data.toList hexSet ≠ [] := by
      intro h
      have h1 := (hexGo_some _ 0).2 ((trim_nil _).1 h)
      rw [hn] at h1
      cases h1
    obtain ⟨T, hT⟩ : ∃ T : ByteArray, T = ⟨(Lib.trimS s.data.toList hexSet).toArray⟩ := ⟨_, rfl⟩
    have hemp : T.toList.isEmpty = false := by
      rw [← decide_eq_emptyBytes]
      refine decide_eq_false (fun h => hne ?_)
      rw [hT] at h
      have h2 := congrArg (fun b : ByteArray => b.data.toList) h
      simpa using h2
    have ht2 : Hid (Calls Tryz.prog 108 #[.string s, .string ⟨hexSet.toArray⟩] w fun e w' => e = .returned (.string T) ∧ Below w.heap.size w w') := by rw [hT]; exact ht
    clear ht hT hne e hn hlen
    go_enter Tryz.func164, Tryz.ntmps164
    go_wp2_with (go_at_call 108; refine ht2.out.mono ?_; rintro e w1 ⟨rfl, hb⟩)
    go_ret2
    exact ⟨rfl, hb⟩
  | some n =>
    have hnil : Lib.trimS s.data.toList hexSet = [] := (trim_nil _).2 ((hexGo_some _ 0).1 (by rw [hn]; rfl))
    have hp := Lib.hid (fun W => parseInt_calls s n hn (by omega) (by omega) W)
    have hb := hexGo_small hn (by omega)
    rw [hnil] at ht
    obtain ⟨a, ha⟩ : ∃ a : Int, a = (n : Int) := ⟨_, rfl⟩
    have a0 : 0 ≤ a := by omega
    have a1 : a < 16777216 := by omega
    rw [← ha] at hp
    have e2 : numOut (Option.map Int.ofNat (some n)) = .tuple #[.int .i32 a, .bool true] := by rw [ha]; rfl
    rw [e2]
    clear hnil e e2 hn ha hb hlen
    go_enter Tryz.func164, Tryz.ntmps164
    go_wp2_with (first | (go_at_call 108; refine ht.out.mono ?_; rintro e w1 ⟨rfl, hb⟩) | (go_at_call 188; refine (hp.out _).mono ?_; rintro e w2 ⟨rfl, hb2⟩))
    go_region
    go_wp2
    go_ret2
    exact ⟨rfl, (hb.trans (hb2.mono hb.size)).trans ⟨rfl, rfl, rfl, Nat.le_refl _, fun _ _ => rfl⟩⟩
end Go.Proofs.YtikpkjpnehkbfaaGreatDoor.Pr
namespace Go.Proofs.YtikpkjpnehkbfaaGreatDoor.Pr
open Go Go.RowKit Go.Shelf Go.Proofs.YtikpkjpnehkbfaaGreatDoor.Sp
theorem dots_index : ∀ l : List UInt8, (dots l = none ∧ Lib.index l [46, 46] = -1) ∨ ∃ a b, dots l = some (a, b) ∧ Lib.index l [46, 46] = (a.length : Int) ∧ l = a ++ 46 :: 46 :: b
  | [] => .inl ⟨rfl, rfl⟩
  | c :: l => by
    by_cases hp : ([46, 46] : List UInt8).isPrefixOf (c :: l) = true
    · right
      cases l with
      | nil => simp [List.isPrefixOf] at hp
      | cons d l =>
        simp only [List.isPrefixOf, Bool.and_true, Bool.and_eq_true, beq_iff_eq] at hp
        obtain ⟨rfl, rfl⟩ := hp
        exact ⟨[], l, by simp [dots], by simp [Lib.index], rfl⟩
    · have e1 : dots (c :: l) = (dots l).map fun p => (c :: p.1, p.2) := by
        rw [dots]
        rintro l' rfl rfl
        simp [List.isPrefixOf] at hp
      have e2 : Lib.index (c :: l) [46, 46] = if Lib.index l [46, 46] == -1 then -1 else Lib.index l [46, 46] + 1 := by rw [Lib.index, if_neg hp]
      rcases dots_index l with ⟨h1, h2⟩ | ⟨a, b, h1, h2, h3⟩
      · left
        rw [e1, e2, h1, h2]
        exact ⟨rfl, rfl⟩
      · right
        refine ⟨c :: a, b, by rw [e1, h1]; rfl, ?_, by rw [h3]; rfl⟩
        rw [e2, h2, if_neg (by simp only [beq_iff_eq]; omega)]
        simp
theorem dots_cut (l : List UInt8) : (dots l = none ∧ Lib.cut l [46, 46] = (l, [], false)) ∨ ∃ a b, dots l = some (a, b) ∧ Lib.cut l [46, 46] = (a, b, true) := by
  rcases dots_index l with ⟨h1, h2⟩ | ⟨a, b, h1, h2, h3⟩
  · exact .inl ⟨h1, by simp [Lib.cut, h2]⟩
  · refine .inr ⟨a, b, h1, ?_⟩
    unfold Lib.cut
    rw [h2, if_pos (by omega), h3]
    simp
def errV (e : Int) : Value := .iface 87 (.int .i64 e)
def spanOut : Except Int (Int × Int) → Value
  | .ok p => .tuple #[.agg #[.int .i32 p.1, .int .i32 p.2], .nilIface]
  | .error e => .tuple #[.agg #[.int .i32 0, .int .i32 0], errV e]
def spanTwo (x y : Option Int) : Except Int (Int × Int) :=
  match x, y with
  | some x, some y => if isChar x && isChar y then (if y < x then .error 1 else .ok (x, y)) else .error 8
  | _, _ => .error 11
def cutOut (l : List UInt8) : List UInt8 × List UInt8 := match dots l with | some p => p | none => (l, l)
theorem spanOf_two (l : List UInt8) : spanOf l = spanTwo (numberOf (cutOut l).1) (numberOf (cutOut l).2) := by
  unfold spanOf spanTwo cutOut
  cases dots l <;> rfl
structure Two (w W : World) (v0 v1 : Value) : Prop where
  below : Below w.heap.size w W
  lt : w.heap.size < W.heap.size
  c0 : W.cell? ⟨w.heap.size, 0, none⟩ = some v0
  c1 : W.cell? ⟨w.heap.size, 1, none⟩ = some v1
  f0 : W.frozen? ⟨w.heap.size, 0, none⟩ = false
  f1 : W.frozen? ⟨w.heap.size, 1, none⟩ = false
theorem Two.start (w : World) (v0 v1 : Value) (e : TypeId) : Two w (w.alloc (.cells #[v0, v1] e)) v0 v1 where
  below := (Below.refl _ w).alloc (Nat.le_refl _) _
  lt := by simp
  c0 := cells_laid w [v0, v1] rfl (by simp [maxLen]) 0 v0 rfl
  c1 := cells_laid w [v0, v1] rfl (by simp [maxLen]) 1 v1 rfl
  f0 := World.frozen?_alloc_new _ _ _ 0
  f1 := World.frozen?_alloc_new _ _ _ 1
theorem Two.drewN {w W : World} {v0 v1 : Value} (h : Two w W v0 v1) (n : Nat) : Two w (W.drewN n) v0 v1 :=
  ⟨h.below.trans ⟨rfl, rfl, rfl, Nat.le_refl _, fun _ _ => rfl⟩, h.lt, h.c0, h.c1, h.f0, h.f1⟩
theorem Two.later {w W W' : World} {v0 v1 : Value} (h : Two w W v0 v1) (hb : Below W.heap.size W W') : Two w W' v0 v1 where
  below := h.below.trans (hb.mono h.below.size)
  lt := Nat.lt_of_lt_of_le h.lt hb.size
  c0 := (hb.cell (p := ⟨w.heap.size, 0, none⟩) h.lt).trans h.c0
  c1 := (hb.cell (p := ⟨w.heap.size, 1, none⟩) h.lt).trans h.c1
  f0 := (World.frozen?_of_block (a := ⟨w.heap.size, 0, none⟩) (hb.block _ h.lt)).trans h.f0
  f1 := (World.frozen?_of_block (a := ⟨w.heap.size, 1, none⟩) (hb.block _ h.lt)).trans h.f1
theorem Two.put {w W : World} {v0 v1 : Value} (h : Two w W v0 v1) (a b : Value) : Two w ((W.setCell ⟨w.heap.size, 0, none⟩ a).setCell ⟨w.heap.size, 1, none⟩ b) a b where
  below := (h.below.setCell (p := ⟨w.heap.size, 0, none⟩) (Nat.le_refl _) _).setCell (p := ⟨w.heap.size, 1, none⟩) (Nat.le_refl _) _
  lt := by simpa using h.lt
  c0 := by
    rw [World.cell?_setCell_other _ _ _ _ (by simp)]
    exact World.cell?_setCell_same' _ _ _ (by rw [h.c0]; rfl)
  c1 := World.cell?_setCell_same' _ _ _ (by rw [World.cell?_setCell_other _ _ _ _ (by simp), h.c1]; rfl)
  f0 := by rw [World.frozen?_setCell, World.frozen?_setCell]; exact h.f0
  f1 := by rw [World.frozen?_setCell, World.frozen?_setCell]; exact h.f1
theorem two_err {x y : Option Int} (h : x = none ∨ y = none) : spanTwo x y = .error 11 := by
  rcases h with rfl | rfl
  · rfl
  · cases x <;> rfl
theorem two_bad {x y : Int} (h : isChar x = false ∨ isChar y = false) : spanTwo (some x) (some y) = .error 8 := by
  show (if (isChar x && isChar y) = true then _ else _) = _
  rcases h with h | h <;> rw [h] <;> simp
theorem two_ok {x y : Int} (h1 : isChar x = true) (h2 : isChar y = true) : spanTwo (some x) (some y) = if y < x then .error 1 else .ok (x, y) := by
  show (if (isChar x && isChar y) = true then _ else _) = _
  rw [h1, h2]
  rfl
def NumAt (s : ByteArray) (n : Int) (b : Bool) : Prop := ∀ W : World, Calls Tryz.prog 164 #[.string s] W fun e w' => e = .returned (.tuple #[.int .i32 n, .bool b]) ∧ Below W.heap.size W w'
theorem numAt_none {s : ByteArray} (hs : s.size ≤ 1048576) (h : numberOf s.data.toList = none) : NumAt s 0 false := fun W => by
  have := number_calls s (by omega) W
  rw [h] at this
  exact this
theorem numAt_some {s : ByteArray} (hs : s.size ≤ 1048576) {n : Int} (h : numberOf s.data.toList = some n) : NumAt s n true := fun W => by
  have := number_calls s (by omega) W
  rw [h] at this
  exact this
def CharAt (r : Int) (b : Bool) : Prop := ∀ W : World, Calls Tryz.prog 95 #[.int .i32 r] W fun e w' => e = .returned (.bool b) ∧ w' = W
theorem charAt {r : Int} {b : Bool} (h : isChar r = b) : CharAt r b := fun W => h ▸ character_calls r W
def CutAt (s : ByteArray) (a b : ByteArray) (t : Bool) (m : Int) : Prop := ∀ w : World, w.cell? ⟨1, 0, none⟩ = some (.int .i64 m) → Calls Tryz.prog 69 #[.string s, .string ⟨#[46, 46]⟩] w fun e w' => e = .returned (.tuple #[.string a, .string b, .bool t]) ∧ ∃ n, w' = w.drewN n
set_option maxHeartbeats 4000000 in
theorem span_nx_two {s a b : ByteArray} {m : Int} (hcut : Hid (CutAt s a b true m)) (hna : Hid (NumAt a 0 false)) (hnb : Hid (NumAt b 0 false)) (w : World) (hm : w.cell? ⟨1, 0, none⟩ = some (.int .i64 m)) :
    Calls Tryz.prog 135 #[.string s] w fun e w' => e = .returned (spanOut (.error 11)) ∧ Below w.heap.size w w' := by
  go_enter Tryz.func135, Tryz.ntmps135
  go_wp2_with (first | (go_at_call 69; refine (hcut.out _ (Lib.cell?_alloc_some _ hm)).mono ?_; clear hcut; rintro e w1 ⟨rfl, nq, rfl⟩; have hK := (Two.start w (.int .i32 0) (.int .i32 0) 158).drewN nq) | (go_at_call 164; refine (hna.out _).mono ?_; clear hna; rintro e w2 ⟨rfl, hb2⟩; replace hK := hK.later hb2; have hc0 := hK.c0; have hc1 := hK.c1; have hf0 := hK.f0; have hf1 := hK.f1) | (go_at_call 164; refine (hnb.out _).mono ?_; clear hnb; rintro e w3 ⟨rfl, hb3⟩; replace hK := hK.later hb3; clear hc0 hc1 hf0 hf1; have hc0 := hK.c0; have hc1 := hK.c1; have hf0 := hK.f0; have hf1 := hK.f1))
  have hE := hK.put (.int .i32 0) (.int .i32 0)
  have e0 := hE.c0
  have e1 := hE.c1
  refine bodyPost_ret (v := spanOut (.error 11)) (by simp [results, Tryz.results135, go_sem, e0, e1, spanOut, errV]) rfl ⟨rfl, hE.below⟩
set_option maxHeartbeats 4000000 in
theorem span_nxy_two {s a b : ByteArray} {m : Int} (hcut : Hid (CutAt s a b true m)) (y : Int) (hna : Hid (NumAt a 0 false)) (hnb : Hid (NumAt b y true)) (w : World) (hm : w.cell? ⟨1, 0, none⟩ = some (.int .i64 m)) :
    Calls Tryz.prog 135 #[.string s] w fun e w' => e = .returned (spanOut (.error 11)) ∧ Below w.heap.size w w' := by
  go_enter Tryz.func135, Tryz.ntmps135
  go_wp2_with (first | (go_at_call 69; refine (hcut.out _ (Lib.cell?_alloc_some _ hm)).mono ?_; clear hcut; rintro e w1 ⟨rfl, nq, rfl⟩; have hK := (Two.start w (.int .i32 0) (.int .i32 0) 158).drewN nq) | (go_at_call 164; refine (hna.out _).mono ?_; clear hna; rintro e w2 ⟨rfl, hb2⟩; replace hK := hK.later hb2; have hc0 := hK.c0; have hc1 := hK.c1; have hf0 := hK.f0; have hf1 := hK.f1) | (go_at_call 164; refine (hnb.out _).mono ?_; clear hnb; rintro e w3 ⟨rfl, hb3⟩; replace hK := hK.later hb3; clear hc0 hc1 hf0 hf1; have hc0 := hK.c0; have hc1 := hK.c1; have hf0 := hK.f0; have hf1 := hK.f1))
  have hE := hK.put (.int .i32 0) (.int .i32 0)
  have e0 := hE.c0
  have e1 := hE.c1
  refine bodyPost_ret (v := spanOut (.error 11)) (by simp [results, Tryz.results135, go_sem, e0, e1, spanOut, errV]) rfl ⟨rfl, hE.below⟩
set_option maxHeartbeats 4000000 in
theorem span_ny_two {s a b : ByteArray} {m : Int} (hcut : Hid (CutAt s a b true m)) (x : Int) (hna : Hid (NumAt a x true)) (hnb : Hid (NumAt b 0 false)) (w : World) (hm : w.cell? ⟨1, 0, none⟩ = some (.int .i64 m)) :
    Calls Tryz.prog 135 #[.string s] w fun e w' => e = .returned (spanOut (.error 11)) ∧ Below w.heap.size w w' := by
  go_enter Tryz.func135, Tryz.ntmps135
  go_wp2_with (first | (go_at_call 69; refine (hcut.out _ (Lib.cell?_alloc_some _ hm)).mono ?_; clear hcut; rintro e w1 ⟨rfl, nq, rfl⟩; have hK := (Two.start w (.int .i32 0) (.int .i32 0) 158).drewN nq) | (go_at_call 164; refine (hna.out _).mono ?_; clear hna; rintro e w2 ⟨rfl, hb2⟩; replace hK := hK.later hb2; have hc0 := hK.c0; have hc1 := hK.c1; have hf0 := hK.f0; have hf1 := hK.f1) | (go_at_call 164; refine (hnb.out _).mono ?_; clear hnb; rintro e w3 ⟨rfl, hb3⟩; replace hK := hK.later hb3; clear hc0 hc1 hf0 hf1; have hc0 := hK.c0; have hc1 := hK.c1; have hf0 := hK.f0; have hf1 := hK.f1))
  have hE := hK.put (.int .i32 0) (.int .i32 0)
  have e0 := hE.c0
  have e1 := hE.c1
  refine bodyPost_ret (v := spanOut (.error 11)) (by simp [results, Tryz.results135, go_sem, e0, e1, spanOut, errV]) rfl ⟨rfl, hE.below⟩
set_option maxHeartbeats 4000000 in
theorem span_cx_two {s a b : ByteArray} {m : Int} (hcut : Hid (CutAt s a b true m)) (x y : Int) (hna : Hid (NumAt a x true)) (hnb : Hid (NumAt b y true)) (hcx : Hid (CharAt x false)) (w : World) (hm : w.cell? ⟨1, 0, none⟩ = some (.int .i64 m)) :
    Calls Tryz.prog 135 #[.string s] w fun e w' => e = .returned (spanOut (.error 8)) ∧ Below w.heap.size w w' := by
  go_enter Tryz.func135, Tryz.ntmps135
  go_wp2_with (first | (go_at_call 69; refine (hcut.out _ (Lib.cell?_alloc_some _ hm)).mono ?_; clear hcut; rintro e w1 ⟨rfl, nq, rfl⟩; have hK := (Two.start w (.int .i32 0) (.int .i32 0) 158).drewN nq) | (go_at_call 164; refine (hna.out _).mono ?_; clear hna; rintro e w2 ⟨rfl, hb2⟩; replace hK := hK.later hb2; have hc0 := hK.c0; have hc1 := hK.c1; have hf0 := hK.f0; have hf1 := hK.f1) | (go_at_call 164; refine (hnb.out _).mono ?_; clear hnb; rintro e w3 ⟨rfl, hb3⟩; replace hK := hK.later hb3; clear hc0 hc1 hf0 hf1; have hc0 := hK.c0; have hc1 := hK.c1; have hf0 := hK.f0; have hf1 := hK.f1) | (go_at_call 95; refine (hcx.out _).mono ?_; clear hcx; rintro e w4 ⟨rfl, hw4⟩; subst hw4))
  have hE := hK.put (.int .i32 0) (.int .i32 0)
  have e0 := hE.c0
  have e1 := hE.c1
  refine bodyPost_ret (v := spanOut (.error 8)) (by simp [results, Tryz.results135, go_sem, e0, e1, spanOut, errV]) rfl ⟨rfl, hE.below⟩
set_option maxHeartbeats 4000000 in
theorem span_cy_two {s a b : ByteArray} {m : Int} (hcut : Hid (CutAt s a b true m)) (x y : Int) (hna : Hid (NumAt a x true)) (hnb : Hid (NumAt b y true)) (hcx : Hid (CharAt x true)) (hcy : Hid (CharAt y false)) (w : World) (hm : w.cell? ⟨1, 0, none⟩ = some (.int .i64 m)) :
    Calls Tryz.prog 135 #[.string s] w fun e w' => e = .returned (spanOut (.error 8)) ∧ Below w.heap.size w w' := by
  go_enter Tryz.func135, Tryz.ntmps135
  go_wp2_with (first | (go_at_call 69; refine (hcut.out _ (Lib.cell?_alloc_some _ hm)).mono ?_; clear hcut; rintro e w1 ⟨rfl, nq, rfl⟩; have hK := (Two.start w (.int .i32 0) (.int .i32 0) 158).drewN nq) | (go_at_call 164; refine (hna.out _).mono ?_; clear hna; rintro e w2 ⟨rfl, hb2⟩; replace hK := hK.later hb2; have hc0 := hK.c0; have hc1 := hK.c1; have hf0 := hK.f0; have hf1 := hK.f1) | (go_at_call 164; refine (hnb.out _).mono ?_; clear hnb; rintro e w3 ⟨rfl, hb3⟩; replace hK := hK.later hb3; clear hc0 hc1 hf0 hf1; have hc0 := hK.c0; have hc1 := hK.c1; have hf0 := hK.f0; have hf1 := hK.f1) | (go_at_call 95; refine (hcx.out _).mono ?_; clear hcx; rintro e w4 ⟨rfl, hw4⟩; subst hw4) | (go_at_call 95; refine (hcy.out _).mono ?_; clear hcy; rintro e w5 ⟨rfl, hw5⟩; subst hw5))
  have hE := hK.put (.int .i32 0) (.int .i32 0)
  have e0 := hE.c0
  have e1 := hE.c1
  refine bodyPost_ret (v := spanOut (.error 8)) (by simp [results, Tryz.results135, go_sem, e0, e1, spanOut, errV]) rfl ⟨rfl, hE.below⟩
set_option maxHeartbeats 4000000 in
theorem span_lt_two {s a b : ByteArray} {m : Int} (hcut : Hid (CutAt s a b true m)) (x y : Int) (hna : Hid (NumAt a x true)) (hnb : Hid (NumAt b y true)) (hcx : Hid (CharAt x true)) (hcy : Hid (CharAt y true)) (hlt : y < x) (w : World) (hm : w.cell? ⟨1, 0, none⟩ = some (.int .i64 m)) :
    Calls Tryz.prog 135 #[.string s] w fun e w' => e = .returned (spanOut (.error 1)) ∧ Below w.heap.size w w' := by
  go_enter Tryz.func135, Tryz.ntmps135
  go_wp2_with (first | (go_at_call 69; refine (hcut.out _ (Lib.cell?_alloc_some _ hm)).mono ?_; clear hcut; rintro e w1 ⟨rfl, nq, rfl⟩; have hK := (Two.start w (.int .i32 0) (.int .i32 0) 158).drewN nq) | (go_at_call 164; refine (hna.out _).mono ?_; clear hna; rintro e w2 ⟨rfl, hb2⟩; replace hK := hK.later hb2; have hc0 := hK.c0; have hc1 := hK.c1; have hf0 := hK.f0; have hf1 := hK.f1) | (go_at_call 164; refine (hnb.out _).mono ?_; clear hnb; rintro e w3 ⟨rfl, hb3⟩; replace hK := hK.later hb3; clear hc0 hc1 hf0 hf1; have hc0 := hK.c0; have hc1 := hK.c1; have hf0 := hK.f0; have hf1 := hK.f1) | (go_at_call 95; refine (hcx.out _).mono ?_; clear hcx; rintro e w4 ⟨rfl, hw4⟩; subst hw4) | (go_at_call 95; refine (hcy.out _).mono ?_; clear hcy; rintro e w5 ⟨rfl, hw5⟩; subst hw5))
  have hE := hK.put (.int .i32 0) (.int .i32 0)
  have e0 := hE.c0
  have e1 := hE.c1
  refine bodyPost_ret (v := spanOut (.error 1)) (by simp [results, Tryz.results135, go_sem, e0, e1, spanOut, errV]) rfl ⟨rfl, hE.below⟩
set_option maxHeartbeats 4000000 in
theorem span_ok_two {s a b : ByteArray} {m : Int} (hcut : Hid (CutAt s a b true m)) (x y : Int) (hna : Hid (NumAt a x true)) (hnb : Hid (NumAt b y true)) (hcx : Hid (CharAt x true)) (hcy : Hid (CharAt y true)) (hlt : x ≤ y) (w : World) (hm : w.cell? ⟨1, 0, none⟩ = some (.int .i64 m)) :
    Calls Tryz.prog 135 #[.string s] w fun e w' => e = .returned (spanOut (.ok (x, y))) ∧ Below w.heap.size w w' := by
  go_enter Tryz.func135, Tryz.ntmps135
  go_wp2_with (first | (go_at_call 69; refine (hcut.out _ (Lib.cell?_alloc_some _ hm)).mono ?_; clear hcut; rintro e w1 ⟨rfl, nq, rfl⟩; have hK := (Two.start w (.int .i32 0) (.int .i32 0) 158).drewN nq) | (go_at_call 164; refine (hna.out _).mono ?_; clear hna; rintro e w2 ⟨rfl, hb2⟩; replace hK := hK.later hb2; have hc0 := hK.c0; have hc1 := hK.c1; have hf0 := hK.f0; have hf1 := hK.f1) | (go_at_call 164; refine (hnb.out _).mono ?_; clear hnb; rintro e w3 ⟨rfl, hb3⟩; replace hK := hK.later hb3; clear hc0 hc1 hf0 hf1; have hc0 := hK.c0; have hc1 := hK.c1; have hf0 := hK.f0; have hf1 := hK.f1) | (go_at_call 95; refine (hcx.out _).mono ?_; clear hcx; rintro e w4 ⟨rfl, hw4⟩; subst hw4) | (go_at_call 95; refine (hcy.out _).mono ?_; clear hcy; rintro e w5 ⟨rfl, hw5⟩; subst hw5))
  have hE := hK.put (.int .i32 x) (.int .i32 y)
  have e0 := hE.c0
  have e1 := hE.c1
  refine bodyPost_ret (v := spanOut (.ok (x, y))) (by simp [results, Tryz.results135, go_sem, e0, e1, spanOut, errV]) rfl ⟨rfl, hE.below⟩
set_option maxHeartbeats 4000000 in
theorem span_nx_one {s a b0 : ByteArray} {m : Int} (hcut : Hid (CutAt s a b0 false m)) (hna : Hid (NumAt a 0 false)) (hnb : Hid (NumAt a 0 false)) (w : World) (hm : w.cell? ⟨1, 0, none⟩ = some (.int .i64 m)) :
    Calls Tryz.prog 135 #[.string s] w fun e w' => e = .returned (spanOut (.error 11)) ∧ Below w.heap.size w w' := by
  go_enter Tryz.func135, Tryz.ntmps135
  go_wp2_with (first | (go_at_call 69; refine (hcut.out _ (Lib.cell?_alloc_some _ hm)).mono ?_; clear hcut; rintro e w1 ⟨rfl, nq, rfl⟩; have hK := (Two.start w (.int .i32 0) (.int .i32 0) 158).drewN nq) | (go_at_call 164; refine (hna.out _).mono ?_; clear hna; rintro e w2 ⟨rfl, hb2⟩; replace hK := hK.later hb2; have hc0 := hK.c0; have hc1 := hK.c1; have hf0 := hK.f0; have hf1 := hK.f1) | (go_at_call 164; refine (hnb.out _).mono ?_; clear hnb; rintro e w3 ⟨rfl, hb3⟩; replace hK := hK.later hb3; clear hc0 hc1 hf0 hf1; have hc0 := hK.c0; have hc1 := hK.c1; have hf0 := hK.f0; have hf1 := hK.f1))
  have hE := hK.put (.int .i32 0) (.int .i32 0)
  have e0 := hE.c0
  have e1 := hE.c1
  refine bodyPost_ret (v := spanOut (.error 11)) (by simp [results, Tryz.results135, go_sem, e0, e1, spanOut, errV]) rfl ⟨rfl, hE.below⟩
set_option maxHeartbeats 4000000 in
theorem span_cx_one {s a b0 : ByteArray} {m : Int} (hcut : Hid (CutAt s a b0 false m)) (x y : Int) (hna : Hid (NumAt a x true)) (hnb : Hid (NumAt a y true)) (hcx : Hid (CharAt x false)) (w : World) (hm : w.cell? ⟨1, 0, none⟩ = some (.int .i64 m)) :
    Calls Tryz.prog 135 #[.string s] w fun e w' => e = .returned (spanOut (.error 8)) ∧ Below w.heap.size w w' := by
  go_enter Tryz.func135, Tryz.ntmps135
  go_wp2_with (first | (go_at_call 69; refine (hcut.out _ (Lib.cell?_alloc_some _ hm)).mono ?_; clear hcut; rintro e w1 ⟨rfl, nq, rfl⟩; have hK := (Two.start w (.int .i32 0) (.int .i32 0) 158).drewN nq) | (go_at_call 164; refine (hna.out _).mono ?_; clear hna; rintro e w2 ⟨rfl, hb2⟩; replace hK := hK.later hb2; have hc0 := hK.c0; have hc1 := hK.c1; have hf0 := hK.f0; have hf1 := hK.f1) | (go_at_call 164; refine (hnb.out _).mono ?_; clear hnb; rintro e w3 ⟨rfl, hb3⟩; replace hK := hK.later hb3; clear hc0 hc1 hf0 hf1; have hc0 := hK.c0; have hc1 := hK.c1; have hf0 := hK.f0; have hf1 := hK.f1) | (go_at_call 95; refine (hcx.out _).mono ?_; clear hcx; rintro e w4 ⟨rfl, hw4⟩; subst hw4))
  have hE := hK.put (.int .i32 0) (.int .i32 0)
  have e0 := hE.c0
  have e1 := hE.c1
  refine bodyPost_ret (v := spanOut (.error 8)) (by simp [results, Tryz.results135, go_sem, e0, e1, spanOut, errV]) rfl ⟨rfl, hE.below⟩
set_option maxHeartbeats 4000000 in
theorem span_ok_one {s a b0 : ByteArray} {m : Int} (hcut : Hid (CutAt s a b0 false m)) (x y : Int) (hna : Hid (NumAt a x true)) (hnb : Hid (NumAt a y true)) (hcx : Hid (CharAt x true)) (hcy : Hid (CharAt y true)) (hlt : x ≤ y) (w : World) (hm : w.cell? ⟨1, 0, none⟩ = some (.int .i64 m)) :
    Calls Tryz.prog 135 #[.string s] w fun e w' => e = .returned (spanOut (.ok (x, y))) ∧ Below w.heap.size w w' := by
  go_enter Tryz.func135, Tryz.ntmps135
  go_wp2_with (first | (go_at_call 69; refine (hcut.out _ (Lib.cell?_alloc_some _ hm)).mono ?_; clear hcut; rintro e w1 ⟨rfl, nq, rfl⟩; have hK := (Two.start w (.int .i32 0) (.int .i32 0) 158).drewN nq) | (go_at_call 164; refine (hna.out _).mono ?_; clear hna; rintro e w2 ⟨rfl, hb2⟩; replace hK := hK.later hb2; have hc0 := hK.c0; have hc1 := hK.c1; have hf0 := hK.f0; have hf1 := hK.f1) | (go_at_call 164; refine (hnb.out _).mono ?_; clear hnb; rintro e w3 ⟨rfl, hb3⟩; replace hK := hK.later hb3; clear hc0 hc1 hf0 hf1; have hc0 := hK.c0; have hc1 := hK.c1; have hf0 := hK.f0; have hf1 := hK.f1) | (go_at_call 95; refine (hcx.out _).mono ?_; clear hcx; rintro e w4 ⟨rfl, hw4⟩; subst hw4) | (go_at_call 95; refine (hcy.out _).mono ?_; clear hcy; rintro e w5 ⟨rfl, hw5⟩; subst hw5))
  have hE := hK.put (.int .i32 x) (.int .i32 y)
  have e0 := hE.c0
  have e1 := hE.c1
  refine bodyPost_ret (v := spanOut (.ok (x, y))) (by simp [results, Tryz.results135, go_sem, e0, e1, spanOut, errV]) rfl ⟨rfl, hE.below⟩
theorem span_calls (s : ByteArray) (hs : s.size ≤ 1048576) (m : Int) (w : World) (hm : w.cell? ⟨1, 0, none⟩ = some (.int .i64 m)) :
    Calls Tryz.prog 135 #[.string s] w fun e w' => e = .returned (spanOut (spanOf s.data.toList)) ∧ Below w.heap.size w w' := by
  rw [spanOf_two]
  have hlen : s.data.toList.length = s.size := by rw [Lib.size_eq]
  rcases dots_cut s.data.toList with ⟨h1, h2⟩ | ⟨a, b, h1, h2⟩
  · have hc : cutOut s.data.toList = (s.data.toList, s.data.toList) := by simp [cutOut, h1]
    have hcut : Hid (CutAt s s ⟨#[]⟩ false m) := Lib.hid (fun w hm => by
      have := Tryz.strings_Cut s ⟨#[46, 46]⟩ m w (by omega) hm
      simp only [h2, Lib.mk_data] at this
      exact this)
    rw [hc]
    simp only
    cases hx : numberOf s.data.toList with
    | none =>
      have hn := numAt_none hs hx
      exact span_nx_one hcut (Lib.hid hn) (Lib.hid hn) w hm
    | some x =>
      have hn := numAt_some hs hx
      cases hcx : isChar x with
      | false =>
        rw [two_bad (.inl hcx)]
        exact span_cx_one hcut x x (Lib.hid hn) (Lib.hid hn) (Lib.hid (charAt hcx)) w hm
      | true =>
        rw [two_ok hcx hcx, if_neg (by omega)]
        exact span_ok_one hcut x x (Lib.hid hn) (Lib.hid hn) (Lib.hid (charAt hcx)) (Lib.hid (charAt hcx)) (by omega) w hm
  · have hc : cutOut s.data.toList = (a, b) := by simp [cutOut, h1]
    have hcut : Hid (CutAt s ⟨a.toArray⟩ ⟨b.toArray⟩ true m) := Lib.hid (fun w hm => by
      have := Tryz.strings_Cut s ⟨#[46, 46]⟩ m w (by omega) hm
      simp only [h2] at this
      exact this)
    have hab : a.length ≤ s.size ∧ b.length ≤ s.size := by
      rcases dots_index s.data.toList with ⟨h3, _⟩ | ⟨a', b', h3, _, h4⟩
      · rw [h1] at h3; cases h3
      · rw [h1] at h3
        injection h3 with h3
        injection h3 with e1 e2
        subst e1 e2
        have := congrArg List.length h4
        simp only [List.length_append, List.length_cons] at this
        omega
    have ha : (⟨a.toArray⟩ : ByteArray).size ≤ 1048576 := by show a.length ≤ _; omega
    have hb : (⟨b.toArray⟩ : ByteArray).size ≤ 1048576 := by show b.length ≤ _; omega
    rw [hc]
    simp only
    cases hx : numberOf a with
    | none =>
      have hna := numAt_none ha hx
      rw [two_err (.inl rfl)]
      cases hy : numberOf b with
      | none =>
        have hnb := numAt_none hb hy
        exact span_nx_two hcut (Lib.hid hna) (Lib.hid hnb) w hm
      | some y =>
        have hnb := numAt_some hb hy
        exact span_nxy_two hcut y (Lib.hid hna) (Lib.hid hnb) w hm
    | some x =>
      have hna := numAt_some ha hx
      cases hy : numberOf b with
      | none =>
        have hnb := numAt_none hb hy
        rw [two_err (.inr rfl)]
        exact span_ny_two hcut x (Lib.hid hna) (Lib.hid hnb) w hm
      | some y =>
        have hnb := numAt_some hb hy
        cases hcx : isChar x with
        | false =>
          rw [two_bad (.inl hcx)]
          exact span_cx_two hcut x y (Lib.hid hna) (Lib.hid hnb) (Lib.hid (charAt hcx)) w hm
        | true =>
          cases hcy : isChar y with
          | false =>
            rw [two_bad (.inr hcy)]
            exact span_cy_two hcut x y (Lib.hid hna) (Lib.hid hnb) (Lib.hid (charAt hcx)) (Lib.hid (charAt hcy)) w hm
          | true =>
            rw [two_ok hcx hcy]
            by_cases hlt : y < x
            · rw [if_pos hlt]
              exact span_lt_two hcut x y (Lib.hid hna) (Lib.hid hnb) (Lib.hid (charAt hcx)) (Lib.hid (charAt hcy)) hlt w hm
            · rw [if_neg hlt]
              exact span_ok_two hcut x y (Lib.hid hna) (Lib.hid hnb) (Lib.hid (charAt hcx)) (Lib.hid (charAt hcy)) (by omega) w hm
end Go.Proofs.YtikpkjpnehkbfaaGreatDoor.Pr
namespace Go.Proofs.YtikpkjpnehkbfaaGreatDoor.Pr
open Go Go.RowKit Go.Shelf Go.Proofs.YtikpkjpnehkbfaaGreatDoor.Sp
def WordsAt (n₀ : Nat) (w : World) (v : Value) (ws : List ByteArray) : Prop :=
  ∃ (b off cap : Nat), v = .slice (some ⟨b, off, none⟩) ws.length cap ∧ b < n₀ ∧ ws.length ≤ cap ∧ cap ≤ maxLen ∧ ∀ i s, ws[i]? = some s → w.cell? ⟨b, off + i, none⟩ = some (.string s)
theorem WordsAt.below {n₀ : Nat} {A B : World} (h : Below n₀ A B) {v : Value} {l : List ByteArray} : WordsAt n₀ A v l → WordsAt n₀ B v l
  | ⟨b, off, cap, e, hb, h1, h2, hc⟩ => ⟨b, off, cap, e, hb, h1, h2, fun i x hi => (h.cell (p := ⟨b, off + i, none⟩) hb).trans (hc i x hi)⟩
theorem WordsAt.mono {n₀ n₁ : Nat} {A : World} (h : n₀ ≤ n₁) {v : Value} {l : List ByteArray} : WordsAt n₀ A v l → WordsAt n₁ A v l
  | ⟨b, off, cap, e, hb, r⟩ => ⟨b, off, cap, e, by omega, r⟩
def wl (ws : List ByteArray) : List Bytes := ws.map fun s => s.data.toList
theorem wl_length (ws : List ByteArray) : (wl ws).length = ws.length := by simp [wl]
theorem wl_at {ws : List ByteArray} {k : Nat} {s : ByteArray} (h : ws[k]? = some s) : (wl ws)[k]? = some s.data.toList := by simp [wl, h]
set_option maxHeartbeats 4000000 in
theorem three_short (a : Option Addr) (n c : Nat) (hn : n < 3) (w : World) :
    Calls Tryz.prog 107 #[.slice a n c] w fun e w' => e = .returned (spanOut (.error 2)) ∧ Below w.heap.size w w' := by
  go_enter Tryz.func107, Tryz.ntmps107
  go_wp2
  refine bodyPost_ret (v := spanOut (.error 2)) (by simp [results, Tryz.results107, go_sem, spanOut, errV]) rfl ⟨rfl, (Below.refl _ _).alloc (Nat.le_refl _) _⟩
set_option maxHeartbeats 4000000 in
theorem three_long (a : Option Addr) (n c : Nat) (hn : 3 < n) (w : World) :
    Calls Tryz.prog 107 #[.slice a n c] w fun e w' => e = .returned (spanOut (.error 3)) ∧ Below w.heap.size w w' := by
  have hn' : 3 ≤ n := by omega
  go_enter Tryz.func107, Tryz.ntmps107
  go_wp2
  refine bodyPost_ret (v := spanOut (.error 3)) (by simp [results, Tryz.results107, go_sem, spanOut, errV]) rfl ⟨rfl, (Below.refl _ _).alloc (Nat.le_refl _) _⟩
def SpanAt (s : ByteArray) (lo hi : Int) (e : Value) (m : Int) : Prop := ∀ w : World, w.cell? ⟨1, 0, none⟩ = some (.int .i64 m) → Calls Tryz.prog 135 #[.string s] w fun en w' => en = .returned (.tuple #[.agg #[.int .i32 lo, .int .i32 hi], e]) ∧ Below w.heap.size w w'
set_option maxHeartbeats 4000000 in
theorem three_ok (b off c : Nat) (s : ByteArray) (lo hi : Int) (ev : Value) (m : Int) (hs : Hid (SpanAt s lo hi ev m)) (w : World) (hc : w.cell? ⟨b, off + 1, none⟩ = some (.string s)) (hm : w.cell? ⟨1, 0, none⟩ = some (.int .i64 m)) :
    Calls Tryz.prog 107 #[.slice (some ⟨b, off, none⟩) 3 c] w fun e w' => e = .returned (.tuple #[.agg #[.int .i32 lo, .int .i32 hi], ev]) ∧ Below w.heap.size w w' := by
  have hcA := Lib.cell?_alloc_some (.cells #[.int .i32 0, .int .i32 0] 158) hc
  clear hc
  go_enter Tryz.func107, Tryz.ntmps107
  go_wp2_with (go_at_call 135; refine (hs.out _ (Lib.cell?_alloc_some _ hm)).mono ?_; clear hs; rintro e w1 ⟨rfl, hb⟩; have hK := (Two.start w (.int .i32 0) (.int .i32 0) 158).later hb; have hc0 := hK.c0; have hc1 := hK.c1; have hf0 := hK.f0; have hf1 := hK.f1)
  have hE := hK.put (.int .i32 lo) (.int .i32 hi)
  have e0 := hE.c0
  have e1 := hE.c1
  refine bodyPost_ret (v := .tuple #[.agg #[.int .i32 lo, .int .i32 hi], ev]) (by simp [results, Tryz.results107, go_sem, e0, e1]) rfl ⟨rfl, hE.below⟩
theorem spanOut_form (r : Except Int (Int × Int)) : ∃ lo hi ev, spanOut r = .tuple #[.agg #[.int .i32 lo, .int .i32 hi], ev] := by
  cases r with
  | ok p => exact ⟨_, _, _, rfl⟩
  | error e => exact ⟨_, _, _, rfl⟩
theorem three_calls (v : Value) (ws : List ByteArray) (hsz : ∀ s ∈ ws, s.size ≤ 1048576) (m : Int) (w : World) (h : WordsAt w.heap.size w v ws) (hm : w.cell? ⟨1, 0, none⟩ = some (.int .i64 m)) :
    Calls Tryz.prog 107 #[v] w fun e w' => e = .returned (spanOut (threeOf (wl ws))) ∧ Below w.heap.size w w' := by
  obtain ⟨b, off, cap, rfl, hb, h1, h2, hc⟩ := h
  unfold threeOf
  rw [wl_length]
  by_cases k1 : ws.length < 3
  · rw [if_pos k1]; exact three_short _ _ _ k1 w
  · rw [if_neg k1]
    by_cases k2 : 3 < ws.length
    · rw [if_pos k2]; exact three_long _ _ _ k2 w
    · rw [if_neg k2]
      have k3 : ws.length = 3 := by omega
      obtain ⟨s, hs⟩ : ∃ s, ws[1]? = some s := ⟨_, List.getElem?_eq_getElem (by omega)⟩
      have e : (wl ws).getD 1 [] = s.data.toList := by rw [List.getD_eq_getElem?_getD, wl_at hs]; rfl
      rw [e, k3]
      obtain ⟨lo, hi, ev, hso⟩ := spanOut_form (spanOf s.data.toList)
      rw [hso]
      exact three_ok b off cap s lo hi ev m (Lib.hid fun W hW => hso ▸ span_calls s (hsz _ (List.mem_of_getElem? hs)) m W hW) w (hc 1 _ hs) hm
theorem pointsOf_step : ∀ {l : List Bytes} {k : Nat} {ps : List Int} {s : Bytes} {n : Int}, pointsOf (l.take k) = .ok ps → l[k]? = some s → pointOf s = .ok n → pointsOf (l.take (k + 1)) = .ok (ps ++ [n])
  | [], k, _, _, _, _, h2, _ => by simp at h2
  | x :: l, 0, ps, s, n, h1, h2, h3 => by
    simp only [List.take_zero, pointsOf, Except.ok.injEq] at h1
    simp only [List.getElem?_cons_zero, Option.some.injEq] at h2
    subst h1 h2
    simp [pointsOf, h3]
  | x :: l, k + 1, ps, s, n, h1, h2, h3 => by
    rw [List.take_succ_cons] at h1 ⊢
    simp only [pointsOf] at h1 ⊢
    cases hp : pointOf x with
    | error e => rw [hp] at h1; cases h1
    | ok m =>
      rw [hp] at h1
      simp only at h1 ⊢
      cases hq : pointsOf (l.take k) with
      | error e => rw [hq] at h1; cases h1
      | ok qs =>
        rw [hq] at h1
        simp only [Except.ok.injEq] at h1
        subst h1
        rw [pointsOf_step hq (by simpa using h2) h3]
        rfl
theorem pointsOf_stop : ∀ {l : List Bytes} {k : Nat} {ps : List Int} {s : Bytes} {e : Int}, pointsOf (l.take k) = .ok ps → l[k]? = some s → pointOf s = .error e → pointsOf l = .error e
  | [], k, _, _, _, _, h2, _ => by simp at h2
  | x :: l, 0, ps, s, n, h1, h2, h3 => by
    simp only [List.getElem?_cons_zero, Option.some.injEq] at h2
    subst h2
    simp [pointsOf, h3]
  | x :: l, k + 1, ps, s, n, h1, h2, h3 => by
    rw [List.take_succ_cons] at h1
    simp only [pointsOf] at h1 ⊢
    cases hp : pointOf x with
    | error e => rw [hp] at h1; cases h1
    | ok m =>
      rw [hp] at h1
      simp only at h1 ⊢
      cases hq : pointsOf (l.take k) with
      | error e => rw [hq] at h1; cases h1
      | ok qs =>
        rw [pointsOf_stop hq (by simpa using h2) h3]
theorem point_none {s : Bytes} (h : numberOf s = none) : pointOf s = .error 11 := by simp [pointOf, h]
theorem point_bad {s : Bytes} {n : Int} (h : numberOf s = some n) (hc : isChar n = false) : pointOf s = .error 8 := by simp [pointOf, h, hc]
theorem point_ok {s : Bytes} {n : Int} (h : numberOf s = some n) (hc : isChar n = true) : pointOf s = .ok n := by simp [pointOf, h, hc]
theorem enc_snoc (l : List Int) (n : Int) : enc l ++ [.int .i32 n] = enc (l ++ [n]) := by simp [enc]
theorem numberOf_in {s : Bytes} {n : Int} (h : numberOf s = some n) : 0 ≤ n ∧ n < 16777216 := by
  unfold numberOf at h
  split at h
  · obtain ⟨m, hm, rfl⟩ := Option.map_eq_some_iff.1 h
    have := hexGo_lt s 0 m 0 hm (by simp)
    rename_i hl
    have h6 : 16 ^ (0 + s.length) ≤ 16 ^ 6 := Nat.pow_le_pow_right (by omega) (by omega)
    exact ⟨by simp, by simp; omega⟩
  · cases h
def PointsOut (n₀ : Nat) (r : Except Int (List Int)) (e : Ending) (w' : World) : Prop :=
  match r with
  | .ok l => ∃ v', e = .returned (.tuple #[v', .nilIface]) ∧ OwnPts n₀ w' v' l
  | .error k => e = .returned (.tuple #[.slice none 0 0, errV k])
set_option maxRecDepth 100000 in
set_option maxHeartbeats 8000000 in
theorem points_calls (v : Value) (ws : List ByteArray) (hl : ws.length ≤ 1048576) (hsz : ∀ s ∈ ws, s.size ≤ 1048576) (w : World) (h : WordsAt w.heap.size w v ws) :
    Calls Tryz.prog 145 #[v] w fun e w' => PointsOut w.heap.size (pointsOf (wl ws)) e w' ∧ Below w.heap.size w w' := by
  obtain ⟨b, off, cap, rfl, hb, h1, h2, hcell⟩ := h
  obtain ⟨ii, hi, hz0, hz1, hz2⟩ := info_parts infoRune
  have hC := Lib.hid hcell
  clear hcell
  have hS := Lib.hid hsz
  clear hsz
  go_enter Tryz.func145, Tryz.ntmps145
  go_wp2
  go_loopw [4, 11] (fun vo vi wr => ∃ (k : Nat) (l : List Int), vi = .int .i64 k ∧ k ≤ ws.length ∧ l.length = k ∧ wr.ownsRow w.heap.size 21 1 vo k (enc l) ∧ Below w.heap.size w wr ∧ Hid (pointsOf ((wl ws).take k) = .ok l)) (fun _ vi _ => ws.length - (intOf vi).toNat)
  case atStart => exact ⟨0, [], rfl, Nat.zero_le _, rfl, ⟨rfl, .inl ⟨rfl, rfl⟩⟩, Below.refl _ _, Lib.hid rfl⟩
  case round =>
    obtain ⟨k, l, rfl, hk, hlk, hown, hB, hP⟩ := hrel
    by_cases hlt : k < ws.length
    · have hs : ws[k]? = some ws[k] := List.getElem?_eq_getElem hlt
      have hcw : wr.cell? ⟨b, off + k, none⟩ = some (.string ws[k]) := (hB.cell (p := ⟨b, off + k, none⟩) hb).trans (hC.out k _ hs)
      have hz := hS.out _ (List.getElem_mem hlt)
      have hws := Lib.hid (wl_at hs)
      generalize ws[k] = s at *
      clear hs
      cases hn : numberOf s.data.toList with
      | none =>
        have hna := Lib.hid (numAt_none hz hn)
        have HF := Lib.hid (pointsOf_stop hP.out hws.out (point_none hn))
        clear hn hlk
        go_wp2_with (go_at_call 164; refine (hna.out _).mono ?_; rintro e w2 ⟨rfl, hb2⟩)
        go_ret2
        rw [HF.out]
        exact ⟨rfl, hB.trans (hb2.mono hB.size)⟩
      | some x =>
        have hna := Lib.hid (numAt_some hz hn)
        obtain ⟨x0, x1⟩ := numberOf_in hn
        cases hc : isChar x with
        | false =>
          have hch := Lib.hid (charAt hc)
          have HF := Lib.hid (pointsOf_stop hP.out hws.out (point_bad hn hc))
          clear hn hlk hc
          go_wp2_with (first | (go_at_call 164; refine (hna.out _).mono ?_; rintro e w2 ⟨rfl, hb2⟩) | (go_at_call 95; refine (hch.out _).mono ?_; rintro e w3 ⟨rfl, hw3⟩; subst w3))
          go_ret2
          rw [HF.out]
          exact ⟨rfl, hB.trans (hb2.mono hB.size)⟩
        | true =>
          have hch := Lib.hid (charAt hc)
          have HF := Lib.hid (pointsOf_step hP.out hws.out (point_ok hn hc))
          have HL := Lib.hid hlk
          clear hn hlk hc
          go_wp2_with (first | (go_at_call 164; refine (hna.out _).mono ?_; rintro e w2 ⟨rfl, hb2⟩; have hown2 := YtikpkjpnehkbfaaGreatDoor.Rowl.own_later hown hb2; have hB2 := hB.trans (hb2.mono hB.size)) | (go_at_call 95; refine (hch.out _).mono ?_; rintro e w3 ⟨rfl, hw3⟩; subst w3) | (at_builtin; refine wpList_append_own _ rfl _ _ 22 rfl w.heap.size 21 ii (.int .i32 0) 1 4 Tryz.underlying22 hi hz0 hz1 hz2 rfl (by decide) _ _ _ rfl (hown2.alloc _) ⟨w2.heap.size, 0, none⟩ 1 1 [.int .i32 x] rfl rfl ?c1 ?c2 ?c3 ?c4 ?c5 ?_; rotate_left 5; intro v' w4 hown4 hgrow _))
          case c1 => exact cells_laid w2 _ rfl (by simp [maxLen])
          case c2 => intro u hu; simp only [List.mem_singleton] at hu; subst hu; rfl
          case c3 => simp only [maxLen]; omega
          case c4 => omega
          case c5 => have := hB2.size; simp; omega
          have hB4 : Below w.heap.size w w4 := (hB2.alloc hB2.size _).grown hgrow (by have := hB2.size; simp; omega) (fun j hj => (hown2.lt j hj).1)
          rw [enc_snoc] at hown4
          clear hgrow hown2 hown
          go_roundw
          case rel => exact ⟨k + 1, l ++ [x], by go_num, by omega, by simp [HL.out], hown4, hB4, HF⟩
          case measure => simp [intOf]; omega
    · have hke : k = ws.length := by omega
      subst hke
      have HF : Hid (pointsOf (wl ws) = .ok l) := by
        have := hP.out
        rw [List.take_of_length_le (by rw [wl_length]; exact Nat.le_refl _)] at this
        exact Lib.hid this
      have HL := Lib.hid hlk
      clear hP hlk
      go_wp2
      go_ret2
      rw [HF.out]
      exact ⟨⟨_, rfl, by unfold OwnPts; rw [HL.out]; exact hown⟩, hB⟩
set_option maxHeartbeats 4000000 in
theorem some_short (a : Option Addr) (n c : Nat) (hn : n < 3) (w : World) :
    Calls Tryz.prog 111 #[.slice a n c] w fun e w' => e = .returned (.tuple #[.slice none 0 0, errV 2]) ∧ Below w.heap.size w w' := by
  go_enter Tryz.func111, Tryz.ntmps111
  go_wp2
  go_ret2
  exact ⟨rfl, Below.refl _ _⟩
set_option maxHeartbeats 4000000 in
theorem some_long (a : Option Addr) (n c : Nat) (hn : 10 < n) (w : World) :
    Calls Tryz.prog 111 #[.slice a n c] w fun e w' => e = .returned (.tuple #[.slice none 0 0, errV 5]) ∧ Below w.heap.size w w' := by
  have hn' : 3 ≤ n := by omega
  go_enter Tryz.func111, Tryz.ntmps111
  go_wp2
  go_ret2
  exact ⟨rfl, Below.refl _ _⟩
theorem pointsOut_form {n₀ : Nat} {r : Except Int (List Int)} {e : Ending} {w' : World} (h : PointsOut n₀ r e w') : ∃ v ev, e = .returned (.tuple #[v, ev]) := by
  cases r with
  | ok l => obtain ⟨v, rfl, _⟩ := h; exact ⟨_, _, rfl⟩
  | error k => exact ⟨_, _, h⟩
set_option maxHeartbeats 4000000 in
theorem some_calls (v : Value) (ws : List ByteArray) (hsz : ∀ s ∈ ws, s.size ≤ 1048576) (w : World) (h : WordsAt w.heap.size w v ws) :
    Calls Tryz.prog 111 #[v] w fun e w' => PointsOut w.heap.size (someOf (wl ws)) e w' ∧ Below w.heap.size w w' := by
  obtain ⟨b, off, cap, rfl, hb, h1, h2, hcell⟩ := h
  unfold someOf
  rw [wl_length]
  by_cases k1 : ws.length < 3
  · rw [if_pos k1]
    exact some_short _ _ _ k1 w
  · rw [if_neg k1]
    by_cases k2 : 10 < ws.length
    · rw [if_pos k2]
      exact some_long _ _ _ k2 w
    · rw [if_neg k2]
      obtain ⟨s, ts, rfl⟩ : ∃ s ts, ws = s :: ts := by
        cases ws with
        | nil => simp at k1
        | cons s ts => exact ⟨s, ts, rfl⟩
      simp only [List.length_cons] at *
      have hp := Lib.hid (points_calls (.slice (some ⟨b, off + 1, none⟩) ts.length (cap - 1)) ts (by omega) (fun x hx => hsz x (by simp [hx])) w ⟨b, off + 1, cap - 1, rfl, hb, by omega, by omega, fun i x hi => by
        have := hcell (i + 1) x (by simpa using hi)
        rw [show off + 1 + i = off + (i + 1) by omega]
        exact this⟩)
      have e : (wl (s :: ts)).tail = wl ts := by simp [wl]
      rw [e]
      have hcs := Lib.hid hcell
      clear hcell e hsz hcs
      obtain ⟨n, hn⟩ : ∃ n, n = ts.length := ⟨_, rfl⟩
      rw [← hn] at hp k1 k2 h1 ⊢
      have g1 : 3 ≤ n + 1 := by omega
      have g2 : n + 1 ≤ 10 := by omega
      have g3 : ¬ cap = 1 := by omega
      have g4 : 1 ≤ cap := by omega
      clear hn k1 k2
      unfold maxLen at h2
      go_enter Tryz.func111, Tryz.ntmps111
      go_wp2_with (go_at_call 145; refine hp.out.mono ?_; rintro e w1 ⟨hq, hb1⟩; obtain ⟨v1, v2, rfl⟩ := pointsOut_form hq; have HQ := Lib.hid hq; clear hq)
      go_ret2
      exact ⟨HQ.out, hb1⟩
end Go.Proofs.YtikpkjpnehkbfaaGreatDoor.Pr
namespace Go.Proofs.YtikpkjpnehkbfaaGreatDoor.Pr
open Go Go.RowKit Go.Shelf Go.Proofs.YtikpkjpnehkbfaaGreatDoor.Sp Go.Proofs.YtikpkjpnehkbfaaGreatDoor.Mapl Go.Proofs.YtikpkjpnehkbfaaGreatDoor.Rowl
def PtsB (W : World) (v : Value) (l : List Int) : Prop :=
  ∃ (b off cap : Nat) (cs : Array Value), v = .slice (some ⟨b, off, none⟩) l.length cap ∧ W.heap[b]? = some (.cells cs 21 (0, 0)) ∧ l.length ≤ cap ∧ cap ≤ maxLen ∧ ∀ i x, l[i]? = some x → cs[off + i]? = some (.int .i32 x)
def NoPts (W : World) (r : Option Nat) : Prop := ∀ k, r = some k → ∀ cs, W.heap[k]? ≠ some (.cells cs 21 (0, 0))
theorem NoPts.none (W : World) : NoPts W none := fun _ h => by cases h
theorem NoPts.cells {W : World} {k : Nat} {cs : Array Value} {t : TypeId} {f : Nat × Nat} (h : W.heap[k]? = some (.cells cs t f)) (ht : t ≠ 21) : NoPts W (some k) := by
  intro k' hk cs' h'
  injection hk with hk
  subst hk
  rw [h] at h'
  injection h' with h'
  injection h' with _ h' _
  exact ht h'
theorem NoPts.map {W : World} {k : Nat} {es : Array MapEntry} {c : Nat} (h : W.heap[k]? = some (.map es c)) : NoPts W (some k) := by
  intro k' hk cs' h'
  injection hk with hk
  subst hk
  rw [h] at h'
  cases h'
theorem lt_of_block {W : World} {b : Nat} {o : Obj} (h : W.heap[b]? = some o) : b < W.heap.size := (Array.getElem?_eq_some_iff.1 h).1
theorem PtsB.grown {W W' : World} {r : Option Nat} (hg : W.grownBy W' r) (hn : NoPts W r) {v : Value} {l : List Int} (h : PtsB W v l) : PtsB W' v l := by
  obtain ⟨b, off, cap, cs, e, hb, r1⟩ := h
  refine ⟨b, off, cap, cs, e, ?_, r1⟩
  rw [hg.block b (lt_of_block hb) (fun e => hn b e.symm cs hb)]
  exact hb
theorem PtsB.pts {W : World} {v : Value} {l : List Int} (h : PtsB W v l) : Pts W.heap.size W v l := by
  obtain ⟨b, off, cap, cs, e, hb, h1, h2, hc⟩ := h
  refine ⟨b, off, cap, e, lt_of_block hb, h1, h2, fun i x hi => ?_⟩
  rw [cell_of_row W b (off + i) cs _ (0, 0) hb]
  exact hc i x hi
theorem PtsB.tail {n₀ : Nat} {W : World} {v : Value} {x : Int} {l : List Int} (h : OwnPts n₀ W v (x :: l)) (hl : l ≠ []) : ∃ g c, v = .slice (some ⟨g, 0, none⟩) (l.length + 1) c ∧ n₀ ≤ g ∧ l.length + 1 ≤ c ∧ c ≤ maxLen ∧ W.cell? ⟨g, 0, none⟩ = some (.int .i32 x) ∧
    (∀ i y, l[i]? = some y → W.cell? ⟨g, 0 + 1 + i, none⟩ = some (.int .i32 y)) ∧ PtsB W (.slice (some ⟨g, 1, none⟩) l.length (c - 1)) l := by
  obtain ⟨h1, h2⟩ := h
  have hpos : 0 < l.length := List.length_pos_iff.2 hl
  rcases h2 with ⟨_, h2⟩ | ⟨g, cap, cur, rfl, hb, hh, hn, hm, hs, ht⟩
  · simp at h2
  · have hcell : ∀ (i : Nat) (y : Int), (x :: l)[i]? = some y → cur[i]? = some (Value.int .i32 y) := by
      intro i y hi
      have hi2 : i < (x :: l).length := (List.getElem?_eq_some_iff.1 hi).1
      have e : (cur.toList.take ((x :: l).length * 1))[i]? = (enc (x :: l))[i]? := by rw [ht]
      rw [List.getElem?_take_of_lt (by omega)] at e
      rw [Array.getElem?_toList] at e
      rw [e]
      unfold enc
      rw [List.getElem?_map, hi]
      rfl
    refine ⟨g, cap, by simp, hb, by simpa using hn, hm, ?_, ?_, g, 1, cap - 1, cur, rfl, hh, by simp at hn; omega, by omega, ?_⟩
    · rw [cell_of_row W g 0 cur _ (0, 0) hh]; exact hcell 0 x rfl
    · intro i y hi
      rw [cell_of_row W g _ cur _ (0, 0) hh]
      rw [show 0 + 1 + i = i + 1 by omega]
      exact hcell (i + 1) y (by simpa using hi)
    · intro i y hi
      rw [show 1 + i = i + 1 by omega]
      exact hcell (i + 1) y (by simpa using hi)
def MapPts (W : World) (b : Nat) (l : List (Int × List Int)) : Prop :=
  ∃ (es : Array MapEntry) (clk : Nat), W.heap[b]? = some (.map es clk) ∧ es.size = l.length ∧ ∀ (i : Nat) (p : Int × List Int), l[i]? = some p → ∃ e : MapEntry, es[i]? = some e ∧ e.key = .int .i32 p.1 ∧ PtsB W e.val p.2
theorem MapPts.grown {W W' : World} {r : Option Nat} (hg : W.grownBy W' r) (hn : NoPts W r) {b : Nat} (hb : r ≠ some b) {l : List (Int × List Int)} (h : MapPts W b l) : MapPts W' b l := by
  obtain ⟨es, clk, hh, hs, hc⟩ := h
  refine ⟨es, clk, ?_, hs, fun i p hi => ?_⟩
  · rw [hg.block b (lt_of_block hh) (fun e => hb e.symm)]; exact hh
  · obtain ⟨e, e1, e2, e3⟩ := hc i p hi
    exact ⟨e, e1, e2, e3.grown hg hn⟩
theorem MapPts.map {W : World} {b : Nat} {l : List (Int × List Int)} (h : MapPts W b l) : PtsMap W.heap.size W (.map (some b)) l := by
  obtain ⟨es, clk, hh, hs, hc⟩ := h
  refine ⟨b, es, clk, rfl, lt_of_block hh, hh, hs, fun i p hi => ?_⟩
  obtain ⟨e, e1, e2, e3⟩ := hc i p hi
  exact ⟨e, e1, e2, e3.pts⟩
def MapInt (W : World) (b : Nat) (l : List (Int × Int)) : Prop :=
  ∃ (es : Array MapEntry) (clk : Nat), W.heap[b]? = some (.map es clk) ∧ es.size = l.length ∧ (∀ (i : Nat) (p : Int × Int), l[i]? = some p → ∃ e : MapEntry, es[i]? = some e ∧ e.key = .int .i32 p.1 ∧ e.val = .int .i64 p.2) ∧ clk = es.size ∧ ∀ (i : Nat) (e : MapEntry), es[i]? = some e → e.born = i
theorem MapInt.grown {W W' : World} {r : Option Nat} (hg : W.grownBy W' r) {b : Nat} (hb : r ≠ some b) {l : List (Int × Int)} (h : MapInt W b l) : MapInt W' b l := by
  obtain ⟨es, clk, hh, hc⟩ := h
  refine ⟨es, clk, ?_, hc⟩
  rw [hg.block b (lt_of_block hh) (fun e => hb e.symm)]; exact hh
def MapPair (W : World) (b : Nat) (l : List (Int × List Int)) : Prop :=
  ∃ (es : Array MapEntry) (clk : Nat), W.heap[b]? = some (.map es clk) ∧ (∀ e ∈ es.toList, ∃ x y r, e.key = .agg #[.int .i32 x, .int .i32 y] ∧ e.val = .int .i32 r ∧ least l x y = some r) ∧
    (∀ x y r, least l x y = some r → ∃ e ∈ es.toList, e.key = .agg #[.int .i32 x, .int .i32 y]) ∧ (es.toList.map (·.key)).Nodup
theorem MapPair.grown {W W' : World} {r : Option Nat} (hg : W.grownBy W' r) {b : Nat} (hb : r ≠ some b) {l : List (Int × List Int)} (h : MapPair W b l) : MapPair W' b l := by
  obtain ⟨es, clk, hh, hc⟩ := h
  refine ⟨es, clk, ?_, hc⟩
  rw [hg.block b (lt_of_block hh) (fun e => hb e.symm)]; exact hh
theorem MapPair.map {W : World} {b : Nat} {l : List (Int × List Int)} (h : MapPair W b l) : PairMap W.heap.size W (.map (some b)) l := by
  obtain ⟨es, clk, hh, h1, h2, _⟩ := h
  exact ⟨b, es, clk, rfl, lt_of_block hh, hh, h1, h2⟩
structure Blocks where
  x : Nat
  p : Nat
  l : Nat
  f : Nat
  d : Nat
  q : Nat
structure StB (B : Blocks) (cv kv : Value) (n₀ : Nat) (W : World) (st : St) (line : Int) : Prop where
  hx : W.heap[B.x]? = some (.cells #[.pointer (some ⟨B.p, 0, none⟩), .map (some B.l), .int .i64 line] 96 (0, 0))
  hp : W.heap[B.p]? = some (.cells #[cv, kv, .map (some B.f), .map (some B.d), .map (some B.q)] 93 (0, 0))
  base : n₀ ≤ B.x ∧ n₀ ≤ B.p ∧ n₀ ≤ B.l ∧ n₀ ≤ B.f ∧ n₀ ≤ B.d ∧ n₀ ≤ B.q
  ne : B.l ≠ B.f ∧ B.l ≠ B.d ∧ B.l ≠ B.q ∧ B.f ≠ B.d ∧ B.f ≠ B.q ∧ B.d ≠ B.q
  hc : W.ownsRow n₀ 162 3 cv st.d.classes.length (flat st.d.classes)
  hk : W.ownsRow n₀ 162 3 kv st.d.kinds.length (flat st.d.kinds)
  apart : ∀ g, cv.ownBlock = some g → kv.ownBlock ≠ some g
  mf : MapPts W B.f st.d.folds
  md : MapPts W B.d st.d.decomps
  ml : MapInt W B.l st.lines
  mq : MapPair W B.q st.d.decomps
theorem cells_not_map {W : World} {k : Nat} {cs : Array Value} {t : TypeId} {f : Nat × Nat} {es : Array MapEntry} {c : Nat} (h : W.heap[k]? = some (.cells cs t f)) (h' : W.heap[k]? = some (.map es c)) : False := by
  rw [h] at h'; cases h'
theorem cells_type {W : World} {k : Nat} {cs cs' : Array Value} {t t' : TypeId} {f f' : Nat × Nat} (h : W.heap[k]? = some (.cells cs t f)) (h' : W.heap[k]? = some (.cells cs' t' f')) : t = t' := by
  rw [h] at h'
  injection h' with h'
  injection h'
theorem own_block {W : World} {n₀ e s n g : Nat} {v : Value} {xs : List Value} (h : W.ownsRow n₀ e s v n xs) (hg : v.ownBlock = some g) : n₀ ≤ g ∧ ∃ cur, W.heap[g]? = some (.cells cur e (0, 0)) := by
  rcases h.2 with ⟨rfl, _⟩ | ⟨g', cap, cur, rfl, hb, hh, _⟩
  · simp [Value.ownBlock] at hg
  · simp only [Value.ownBlock, Option.some.injEq] at hg
    subst hg
    exact ⟨hb, cur, hh⟩
theorem own_ne {W : World} {n₀ e s n k : Nat} {v : Value} {xs : List Value} (h : W.ownsRow n₀ e s v n xs) {o : Obj} (hk : W.heap[k]? = some o) (ho : ∀ cur, o ≠ .cells cur e (0, 0)) : v.ownBlock ≠ some k := by
  intro hg
  obtain ⟨_, cur, hh⟩ := own_block h hg
  rw [hk] at hh
  injection hh with hh
  exact ho cur hh
section
variable {B : Blocks} {cv kv : Value} {n₀ : Nat} {W W' : World} {st : St} {line : Int}
theorem StB.grown (h : StB B cv kv n₀ W st line) {r : Option Nat} (hg : W.grownBy W' r) (hn : NoPts W r) (hr : ∀ k, r = some k → k ≠ B.x ∧ k ≠ B.p ∧ k ≠ B.l ∧ k ≠ B.f ∧ k ≠ B.d ∧ k ≠ B.q ∧ cv.ownBlock ≠ some k ∧ kv.ownBlock ≠ some k) : StB B cv kv n₀ W' st line where
  hx := (hg.block _ (lt_of_block h.hx) (fun e => (hr _ e.symm).1 rfl)).trans h.hx
  hp := (hg.block _ (lt_of_block h.hp) (fun e => (hr _ e.symm).2.1 rfl)).trans h.hp
  base := h.base
  ne := h.ne
  hc := h.hc.kept hg (by
    cases r with
    | none => cases cv.ownBlock <;> simp
    | some k => exact .inr (hr k rfl).2.2.2.2.2.2.1)
  hk := h.hk.kept hg (by
    cases r with
    | none => cases kv.ownBlock <;> simp
    | some k => exact .inr (hr k rfl).2.2.2.2.2.2.2)
  apart := h.apart
  mf := h.mf.grown hg hn (fun e => (hr _ e).2.2.2.1 rfl)
  md := h.md.grown hg hn (fun e => (hr _ e).2.2.2.2.1 rfl)
  ml := h.ml.grown hg (fun e => (hr _ e).2.2.1 rfl)
  mq := h.mq.grown hg (fun e => (hr _ e).2.2.2.2.2.1 rfl)
theorem grown_of_below (hb : Below W.heap.size W W') : W.grownBy W' none := ⟨hb.os, hb.tape, hb.output, hb.size, fun k hk _ => hb.block k hk⟩
theorem StB.later (h : StB B cv kv n₀ W st line) (hb : Below W.heap.size W W') : StB B cv kv n₀ W' st line :=
  h.grown (grown_of_below hb) (NoPts.none _) (fun k e => by cases e)
theorem StB.nm (h : StB B cv kv n₀ W st line) : B.x ≠ B.p ∧ (B.x ≠ B.l ∧ B.x ≠ B.f ∧ B.x ≠ B.d ∧ B.x ≠ B.q) ∧ (B.p ≠ B.l ∧ B.p ≠ B.f ∧ B.p ≠ B.d ∧ B.p ≠ B.q) := by
  obtain ⟨_, _, f1, _⟩ := h.mf
  obtain ⟨_, _, d1, _⟩ := h.md
  obtain ⟨_, _, l1, _⟩ := h.ml
  obtain ⟨_, _, q1, _⟩ := h.mq
  refine ⟨fun e => ?_, ⟨fun e => ?_, fun e => ?_, fun e => ?_, fun e => ?_⟩, ⟨fun e => ?_, fun e => ?_, fun e => ?_, fun e => ?_⟩⟩
  · exact absurd (cells_type (e ▸ h.hx) h.hp) (by decide)
  · exact cells_not_map (e ▸ h.hx) l1
  · exact cells_not_map (e ▸ h.hx) f1
  · exact cells_not_map (e ▸ h.hx) d1
  · exact cells_not_map (e ▸ h.hx) q1
  · exact cells_not_map (e ▸ h.hp) l1
  · exact cells_not_map (e ▸ h.hp) f1
  · exact cells_not_map (e ▸ h.hp) d1
  · exact cells_not_map (e ▸ h.hp) q1
theorem StB.rows (h : StB B cv kv n₀ W st line) {v : Value} {n : Nat} {xs : List Value} (hv : W.ownsRow n₀ 162 3 v n xs) : v.ownBlock ≠ some B.x ∧ v.ownBlock ≠ some B.p ∧ v.ownBlock ≠ some B.l ∧ v.ownBlock ≠ some B.f ∧ v.ownBlock ≠ some B.d ∧ v.ownBlock ≠ some B.q := by
  obtain ⟨_, _, f1, _⟩ := h.mf
  obtain ⟨_, _, d1, _⟩ := h.md
  obtain ⟨_, _, l1, _⟩ := h.ml
  obtain ⟨_, _, q1, _⟩ := h.mq
  exact ⟨own_ne hv h.hx (by simp), own_ne hv h.hp (by simp), own_ne hv l1 (by simp), own_ne hv f1 (by simp), own_ne hv d1 (by simp), own_ne hv q1 (by simp)⟩
theorem NoPts.row {v : Value} {n : Nat} {xs : List Value} (hv : W.ownsRow n₀ 162 3 v n xs) : NoPts W v.ownBlock := by
  intro k hk cs hh
  obtain ⟨_, cur, h2⟩ := own_block hv hk
  exact absurd (cells_type h2 hh) (by decide)
theorem setCell_grown (w : World) (a : Addr) (u : Value) : w.grownBy (w.setCell a u) (some a.block) :=
  ⟨rfl, rfl, rfl, by simp [World.setCell], fun k _ hne => heap_setCell_other w a k u (fun e => hne (by rw [e]))⟩
theorem StB.class_put (h : StB B cv kv n₀ W st line) (x : Row) {v' : Value} (hg : W.grownBy W' cv.ownBlock) (hown : W'.ownsRow n₀ 162 3 v' (st.d.classes.length + 1) (flat st.d.classes ++ rowCells x)) (hat : v'.ownBlock = cv.ownBlock ∨ ∃ g, v'.ownBlock = some g ∧ W.heap.size ≤ g) :
    StB B v' kv n₀ (W'.setCell ⟨B.p, 0, none⟩ v') { st with d := { st.d with classes := st.d.classes ++ [x] } } line := by
  have hcr := h.rows h.hc
  have hkr := h.rows h.hk
  have hnm := h.nm
  have hp1 : W'.heap[B.p]? = some (.cells #[cv, kv, .map (some B.f), .map (some B.d), .map (some B.q)] 93 (0, 0)) := (hg.block _ (lt_of_block h.hp) (fun e => hcr.2.1 e.symm)).trans h.hp
  have hs := setCell_grown W' ⟨B.p, 0, none⟩ v'
  have hn1 : NoPts W cv.ownBlock := NoPts.row h.hc
  have hn2 : NoPts W' (some B.p) := NoPts.cells hp1 (by decide)
  have hk1 : W'.ownsRow n₀ 162 3 kv st.d.kinds.length (flat st.d.kinds) := h.hk.kept hg (by
    cases hcb : cv.ownBlock with
    | none => cases kv.ownBlock <;> simp
    | some g => exact .inr (h.apart g hcb))
  have hvp : v'.ownBlock ≠ some B.p := own_ne hown hp1 (by simp)
  exact {
    hx := (hs.block _ (Nat.lt_of_lt_of_le (lt_of_block h.hx) hg.size) (by simp only [ne_eq, Option.some.injEq]; exact hnm.1)).trans ((hg.block _ (lt_of_block h.hx) (fun e => hcr.1 e.symm)).trans h.hx)
    hp := by rw [heap_setCell_same W' B.p 0 _ _ v' hp1]; rfl
    base := h.base
    ne := h.ne
    hc := by
      have e1 : (st.d.classes ++ [x]).length = st.d.classes.length + 1 := by simp
      have e2 : flat (st.d.classes ++ [x]) = flat st.d.classes ++ rowCells x := by simp [flat]
      simp only [e1, e2]
      exact hown.kept hs (.inr hvp)
    hk := hk1.kept hs (.inr hkr.2.1)
    apart := by
      intro g hg' hkg
      rcases hat with e | ⟨g', e, hlt⟩
      · exact h.apart g (e ▸ hg') hkg
      · rw [e] at hg'
        injection hg' with hg'
        subst hg'
        obtain ⟨_, cur, hh⟩ := own_block h.hk hkg
        have := lt_of_block hh
        omega
    mf := (h.mf.grown hg hn1 hcr.2.2.2.1).grown hs hn2 (by simp only [ne_eq, Option.some.injEq]; exact hnm.2.2.2.1)
    md := (h.md.grown hg hn1 hcr.2.2.2.2.1).grown hs hn2 (by simp only [ne_eq, Option.some.injEq]; exact hnm.2.2.2.2.1)
    ml := (h.ml.grown hg hcr.2.2.1).grown hs (by simp only [ne_eq, Option.some.injEq]; exact hnm.2.2.1)
    mq := (h.mq.grown hg hcr.2.2.2.2.2).grown hs (by simp only [ne_eq, Option.some.injEq]; exact hnm.2.2.2.2.2) }
theorem StB.kind_put (h : StB B cv kv n₀ W st line) (x : Row) {v' : Value} (hg : W.grownBy W' kv.ownBlock) (hown : W'.ownsRow n₀ 162 3 v' (st.d.kinds.length + 1) (flat st.d.kinds ++ rowCells x)) (hat : v'.ownBlock = kv.ownBlock ∨ ∃ g, v'.ownBlock = some g ∧ W.heap.size ≤ g) :
    StB B cv v' n₀ (W'.setCell ⟨B.p, 1, none⟩ v') { st with d := { st.d with kinds := st.d.kinds ++ [x] } } line := by
  have hcr := h.rows h.hc
  have hkr := h.rows h.hk
  have hnm := h.nm
  have hp1 : W'.heap[B.p]? = some (.cells #[cv, kv, .map (some B.f), .map (some B.d), .map (some B.q)] 93 (0, 0)) := (hg.block _ (lt_of_block h.hp) (fun e => hkr.2.1 e.symm)).trans h.hp
  have hs := setCell_grown W' ⟨B.p, 1, none⟩ v'
  have hn1 : NoPts W kv.ownBlock := NoPts.row h.hk
  have hn2 : NoPts W' (some B.p) := NoPts.cells hp1 (by decide)
  have hc1 : W'.ownsRow n₀ 162 3 cv st.d.classes.length (flat st.d.classes) := h.hc.kept hg (by
    cases hcb : cv.ownBlock with
    | none => exact .inl rfl
    | some g => exact .inr (fun e => h.apart g hcb e.symm))
  have hvp : v'.ownBlock ≠ some B.p := own_ne hown hp1 (by simp)
  exact {
    hx := (hs.block _ (Nat.lt_of_lt_of_le (lt_of_block h.hx) hg.size) (by simp only [ne_eq, Option.some.injEq]; exact hnm.1)).trans ((hg.block _ (lt_of_block h.hx) (fun e => hkr.1 e.symm)).trans h.hx)
    hp := by rw [heap_setCell_same W' B.p 1 _ _ v' hp1]; rfl
    base := h.base
    ne := h.ne
    hk := by
      have e1 : (st.d.kinds ++ [x]).length = st.d.kinds.length + 1 := by simp
      have e2 : flat (st.d.kinds ++ [x]) = flat st.d.kinds ++ rowCells x := by simp [flat]
      simp only [e1, e2]
      exact hown.kept hs (.inr hvp)
    hc := hc1.kept hs (.inr hcr.2.1)
    apart := by
      intro g hcg hkg
      rcases hat with e | ⟨g', e, hlt⟩
      · exact h.apart g hcg (e ▸ hkg)
      · rw [e] at hkg
        injection hkg with hkg
        subst hkg
        obtain ⟨_, cur, hh⟩ := own_block h.hc hcg
        have := lt_of_block hh
        omega
    mf := (h.mf.grown hg hn1 hkr.2.2.2.1).grown hs hn2 (by simp only [ne_eq, Option.some.injEq]; exact hnm.2.2.2.1)
    md := (h.md.grown hg hn1 hkr.2.2.2.2.1).grown hs hn2 (by simp only [ne_eq, Option.some.injEq]; exact hnm.2.2.2.2.1)
    ml := (h.ml.grown hg hkr.2.2.1).grown hs (by simp only [ne_eq, Option.some.injEq]; exact hnm.2.2.1)
    mq := (h.mq.grown hg hkr.2.2.2.2.2).grown hs (by simp only [ne_eq, Option.some.injEq]; exact hnm.2.2.2.2.2) }
end
end Go.Proofs.YtikpkjpnehkbfaaGreatDoor.Pr
namespace Go.Proofs.YtikpkjpnehkbfaaGreatDoor.Pr
open Go Go.RowKit Go.Shelf Go.Proofs.YtikpkjpnehkbfaaGreatDoor.Sp Go.Proofs.YtikpkjpnehkbfaaGreatDoor.Mapl Go.Proofs.YtikpkjpnehkbfaaGreatDoor.Rowl
theorem pts_keys {W : World} {es : Array MapEntry} {l : List (Int × List Int)} (hs : es.size = l.length) (hc : ∀ (i : Nat) (p : Int × List Int), l[i]? = some p → ∃ e : MapEntry, es[i]? = some e ∧ e.key = .int .i32 p.1 ∧ PtsB W e.val p.2) : ∀ e ∈ es.toList, ∃ y, e.key = .int .i32 y := by
  intro e he
  obtain ⟨i, hi⟩ := List.mem_iff_getElem?.1 he
  have hil : i < l.length := by have := (List.getElem?_eq_some_iff.1 hi).1; simp at this; omega
  obtain ⟨e', h1, h2, _⟩ := hc i l[i] (List.getElem?_eq_getElem hil)
  rw [← Array.getElem?_toList, hi] at h1
  injection h1 with h1
  subst h1
  exact ⟨_, h2⟩
theorem pts_missing {W : World} {es : Array MapEntry} {l : List (Int × List Int)} (hs : es.size = l.length) (hc : ∀ (i : Nat) (p : Int × List Int), l[i]? = some p → ∃ e : MapEntry, es[i]? = some e ∧ e.key = .int .i32 p.1 ∧ PtsB W e.val p.2) (r : Int) (hr : lookD l r = none) : found (keyI .i32 r) es.toList 0 = none := by
  refine found_none fun e he => ?_
  obtain ⟨i, hi⟩ := List.mem_iff_getElem?.1 he
  have hil : i < l.length := by have := (List.getElem?_eq_some_iff.1 hi).1; simp at this; omega
  obtain ⟨e', h1, h2, _⟩ := hc i l[i] (List.getElem?_eq_getElem hil)
  rw [← Array.getElem?_toList, hi] at h1
  injection h1 with h1
  subst h1
  rw [h2]
  simp only [keyI, beq_self_eq_true, Bool.true_and, beq_eq_false_iff_ne, ne_eq]
  intro e
  unfold lookD at hr
  rw [Option.map_eq_none_iff, List.find?_eq_none] at hr
  exact hr l[i] (List.getElem_mem hil) (by simp [e])
theorem MapPts.put {W : World} {b : Nat} {l : List (Int × List Int)} (h : MapPts W b l) (r : Int) (hr : lookD l r = none) (v : Value) (ps : List Int) (hv : PtsB W v ps) :
    ∃ o : Obj, (∀ W', W'.heap[b]? = W.heap[b]? → (Instr.mapUpdate 89 (.map (some b)) (.int .i32 r) v).run Tryz.prog W' = .ok () (setB W' b o)) ∧ ∀ W', W.grownBy W' none → MapPts (setB W' b o) b (l ++ [(r, ps)]) := by
  obtain ⟨es, clk, hh, hs, hc⟩ := h
  refine ⟨.map (es.push { key := .int .i32 r, val := v, born := clk }) (clk + 1), fun W' hW => ?_, fun W' hg => ?_⟩
  · exact run_update_new W' (keyI .i32 r) (.int .i32 r) v Tryz.underlying89 (hW.trans hh) (check_int W' Tryz.underlying21 false) (find_int W' Tryz.underlying21 es.toList (pts_keys hs hc)) (pts_missing hs hc r hr)
  · have hh' : W'.heap[b]? = some (.map es clk) := (hg.block b (lt_of_block hh) (fun e => by cases e)).trans hh
    have hst := setB_grown W' b (.map (es.push { key := .int .i32 r, val := v, born := clk }) (clk + 1))
    refine ⟨_, _, setB_same hh', by simp [hs], fun i p hi => ?_⟩
    by_cases hil : i < l.length
    · rw [List.getElem?_append_left hil] at hi
      obtain ⟨e, e1, e2, e3⟩ := hc i p hi
      refine ⟨e, ?_, e2, (e3.grown hg (NoPts.none _)).grown hst (NoPts.map hh')⟩
      rw [Array.getElem?_push, if_neg (by omega)]
      exact e1
    · have hi2 : i < (l ++ [(r, ps)]).length := (List.getElem?_eq_some_iff.1 hi).1
      simp at hi2
      have hie : i = l.length := by omega
      subst hie
      simp only [List.getElem?_concat_length, Option.some.injEq] at hi
      subst hi
      refine ⟨_, by rw [Array.getElem?_push, if_pos hs.symm], rfl, (hv.grown hg (NoPts.none _)).grown hst (NoPts.map hh')⟩
theorem StB.fold_put {B : Blocks} {cv kv : Value} {n₀ : Nat} {W : World} {st : St} {line : Int} (h : StB B cv kv n₀ W st line) (r : Int) (ps : List Int) {o : Obj} (hm : MapPts (setB W B.f o) B.f (st.d.folds ++ [(r, ps)])) :
    StB B cv kv n₀ (setB W B.f o) { st with d := { st.d with folds := st.d.folds ++ [(r, ps)] } } line := by
  have hg := setB_grown W B.f o
  obtain ⟨_, _, f1, _⟩ := h.mf
  have hn : NoPts W (some B.f) := NoPts.map f1
  have hnm := h.nm
  have hne := h.ne
  exact {
    hx := (hg.block _ (lt_of_block h.hx) (by simp only [ne_eq, Option.some.injEq]; exact hnm.2.1.2.1)).trans h.hx
    hp := (hg.block _ (lt_of_block h.hp) (by simp only [ne_eq, Option.some.injEq]; exact hnm.2.2.2.1)).trans h.hp
    base := h.base
    ne := h.ne
    hc := h.hc.kept hg (.inr (h.rows h.hc).2.2.2.1)
    hk := h.hk.kept hg (.inr (h.rows h.hk).2.2.2.1)
    apart := h.apart
    mf := hm
    md := h.md.grown hg hn (by simp only [ne_eq, Option.some.injEq]; exact hne.2.2.2.1)
    ml := h.ml.grown hg (by simp only [ne_eq, Option.some.injEq]; exact fun e => hne.1 e.symm)
    mq := h.mq.grown hg (by simp only [ne_eq, Option.some.injEq]; exact hne.2.2.2.2.1) }
structure Bel (B : Blocks) (n₀ : Nat) (w w' : World) : Prop where
  below : Below n₀ w w'
  keep : ∀ (k : Nat) (o : Obj), w.heap[k]? = some o → k ≠ B.p → k ≠ B.l → k ≠ B.f → k ≠ B.d → k ≠ B.q → (∀ cs, o ≠ .cells cs 162 (0, 0)) → w'.heap[k]? = some o
theorem Bel.of {B : Blocks} {n₀ : Nat} {w w' : World} (h : Below w.heap.size w w') (hn : n₀ ≤ w.heap.size) : Bel B n₀ w w' :=
  ⟨h.mono hn, fun k _ hk _ _ _ _ _ _ => (h.block k (lt_of_block hk)).trans hk⟩
theorem Bel.trans {B : Blocks} {n₀ : Nat} {a b c : World} (h : Bel B n₀ a b) (h' : Bel B n₀ b c) : Bel B n₀ a c :=
  ⟨h.below.trans h'.below, fun k o hk h1 h2 h3 h4 h5 h6 => h'.keep k o (h.keep k o hk h1 h2 h3 h4 h5 h6) h1 h2 h3 h4 h5 h6⟩
theorem Bel.by {B : Blocks} {n₀ : Nat} {w w' : World} {r : Option Nat} (hg : w.grownBy w' r) (hn : n₀ ≤ w.heap.size) (hb : ∀ k, r = some k → n₀ ≤ k) (hr : ∀ k o, r = some k → w.heap[k]? = some o → k = B.p ∨ k = B.l ∨ k = B.f ∨ k = B.d ∨ k = B.q ∨ ∃ cs, o = .cells cs 162 (0, 0)) : Bel B n₀ w w' :=
  ⟨(Below.refl n₀ w).grown hg hn hb, fun k o hk h1 h2 h3 h4 h5 h6 => (hg.block k (lt_of_block hk) (fun e => by
    rcases hr k o e.symm hk with h | h | h | h | h | ⟨cs, h⟩
    · exact h1 h
    · exact h2 h
    · exact h3 h
    · exact h4 h
    · exact h5 h
    · exact h6 cs h)).trans hk⟩
def MethOut (B : Blocks) (n₀ : Nat) (line : Int) (r : Except Int St) (e : Ending) (w' : World) : Prop :=
  match r with
  | .ok st => e = .returned .nilIface ∧ ∃ cv kv, StB B cv kv n₀ w' st line
  | .error k => e = .returned (errV k)
theorem someOf_len {w : List Bytes} {l : List Int} (h : someOf w = .ok l) : ∃ r ps, l = r :: ps ∧ ps ≠ [] ∧ ps.length ≤ 8 := by
  have len : ∀ (w : List Bytes) (l : List Int), pointsOf w = .ok l → l.length = w.length := by
    intro w
    induction w with
    | nil => intro l h; simp only [pointsOf, Except.ok.injEq] at h; subst h; rfl
    | cons x w ih =>
      intro l h
      simp only [pointsOf] at h
      cases hp : pointOf x with
      | error e => rw [hp] at h; cases h
      | ok n =>
        rw [hp] at h
        simp only at h
        cases hq : pointsOf w with
        | error e => rw [hq] at h; cases h
        | ok ns =>
          rw [hq] at h
          simp only [Except.ok.injEq] at h
          subst h
          simp [ih ns hq]
  unfold someOf at h
  split at h
  · cases h
  · split at h
    · cases h
    · have := len _ _ h
      rw [List.length_tail] at this
      match l, this with
      | [], this => simp at this; omega
      | [r], this => simp at this; omega
      | r :: a :: ps, this => exact ⟨r, a :: ps, rfl, by simp, by simp at this ⊢; omega⟩
def SomeErr (v : Value) (w : World) (k : Int) (n₀ : Nat) : Prop := Calls Tryz.prog 111 #[v] w fun e w' => e = .returned (.tuple #[.slice none 0 0, errV k]) ∧ Below n₀ w w'
set_option maxHeartbeats 4000000 in
theorem fold_err (x : Nat) (v : Value) (k : Int) (w : World) (hs : Hid (SomeErr v w k w.heap.size)) :
    Calls Tryz.prog 66 #[.pointer (some ⟨x, 0, none⟩), v] w fun e w' => e = .returned (errV k) ∧ Below w.heap.size w w' := by
  have he : errV k = .iface 87 (.int .i64 k) := rfl
  unfold SomeErr at hs
  rw [he] at hs ⊢
  clear he
  go_enter Tryz.func66, Tryz.ntmps66
  go_wp2_with (go_at_call 111; refine hs.out.mono ?_; rintro e w1 ⟨rfl, hb⟩)
  go_ret
  exact ⟨rfl, hb⟩
def SomeOk (v : Value) (w : World) (r : Int) (ps : List Int) : Prop := Calls Tryz.prog 111 #[v] w fun e w' => (∃ g c, e = .returned (.tuple #[.slice (some ⟨g, 0, none⟩) (ps.length + 1) c, .nilIface]) ∧ ps.length + 1 ≤ c ∧ c ≤ maxLen ∧ w'.cell? ⟨g, 0, none⟩ = some (.int .i32 r) ∧ PtsB w' (.slice (some ⟨g, 1, none⟩) ps.length (c - 1)) ps) ∧ Below w.heap.size w w'
set_option maxHeartbeats 8000000 in
set_option maxRecDepth 100000 in
theorem fold_twice {B : Blocks} {cv kv : Value} {n₀ : Nat} {st : St} {line : Int} (v : Value) (w : World) (h : StB B cv kv n₀ w st line) (r : Int) (ps : List Int) (hs : Hid (SomeOk v w r ps)) (hl : (lookD st.d.folds r).isSome = true) :
    Calls Tryz.prog 66 #[.pointer (some ⟨B.x, 0, none⟩), v] w fun e w' => e = .returned (errV 13) ∧ Below w.heap.size w w' := by
  have H := Lib.hid h
  have HL := Lib.hid hl
  clear h hl
  unfold SomeOk at hs
  go_enter Tryz.func66, Tryz.ntmps66
  go_wp2_with (go_at_call 111; refine hs.out.mono ?_; rintro e w1 ⟨⟨g, c, rfl, hc1, hc2, hg0, hpt⟩, hb⟩)
  have h1 := H.out.later hb
  have c1 : w1.cell? ⟨B.x, 0, none⟩ = some (.pointer (some ⟨B.p, 0, none⟩)) := by rw [cell_of_row w1 _ 0 _ _ (0, 0) h1.hx]; rfl
  have c2 : w1.cell? ⟨B.p, 2, none⟩ = some (.map (some B.f)) := by rw [cell_of_row w1 _ 2 _ _ (0, 0) h1.hp]; rfl
  obtain ⟨vl, _, hlk⟩ := look_pts h1.mf.map r
  have hlk1 := (hlk w1.drew rfl).2
  rw [HL.out] at hlk1
  clear hlk h1 hpt
  go_region
  go_wp2
  go_ret
  exact ⟨rfl, hb.trans ⟨rfl, rfl, rfl, Nat.le_refl _, fun _ _ => rfl⟩⟩
set_option maxHeartbeats 8000000 in
set_option maxRecDepth 100000 in
theorem fold_new {B : Blocks} {cv kv : Value} {n₀ : Nat} {st : St} {line : Int} (v : Value) (w : World) (h : StB B cv kv n₀ w st line) (hn₀ : n₀ ≤ w.heap.size) (r : Int) (ps : List Int) (hp0 : 1 ≤ ps.length) (hp8 : ps.length ≤ 8) (hs : Hid (SomeOk v w r ps)) (hl : lookD st.d.folds r = none) :
    Calls Tryz.prog 66 #[.pointer (some ⟨B.x, 0, none⟩), v] w fun e w' => MethOut B n₀ line (.ok { st with d := { st.d with folds := st.d.folds ++ [(r, ps)] } }) e w' ∧ Bel B n₀ w w' := by
  have H := Lib.hid h
  have HL := Lib.hid hl
  clear h hl
  unfold SomeOk at hs
  go_enter Tryz.func66, Tryz.ntmps66
  go_wp2_with (go_at_call 111; refine hs.out.mono ?_; rintro e w1 ⟨⟨g, c, rfl, hc1, hc2, hg0, hpt⟩, hb⟩)
  have h1 := H.out.later hb
  have c1 : w1.cell? ⟨B.x, 0, none⟩ = some (.pointer (some ⟨B.p, 0, none⟩)) := by rw [cell_of_row w1 _ 0 _ _ (0, 0) h1.hx]; rfl
  have c2 : w1.cell? ⟨B.p, 2, none⟩ = some (.map (some B.f)) := by rw [cell_of_row w1 _ 2 _ _ (0, 0) h1.hp]; rfl
  obtain ⟨vl, _, hlk⟩ := look_pts h1.mf.map r
  have hlk1 := (hlk w1.drew rfl).2
  rw [HL.out] at hlk1
  obtain ⟨o, hu, hm⟩ := h1.mf.put r HL.out _ ps hpt
  have hu2 := hu w1.drew.drew rfl
  have H1 := Lib.hid h1
  have HM := Lib.hid hm
  clear hlk h1 hpt hu hm
  unfold maxLen at hc2
  have i1 : (0 : Int) ≤ (ps.length : Int) + 1 := by omega
  have i2 : (1 : Int) ≤ (ps.length : Int) + 1 := by omega
  have i3 : (ps.length : Int) + 1 ≤ (c : Int) := by omega
  have i4 : ¬ c = 1 := by omega
  have i5 : (0 : Int) < (ps.length : Int) + 1 := by omega
  go_region
  go_wp2
  go_region
  go_wp2
  go_ret
  have hd : Below w1.heap.size w1 w1.drew.drew := ((Below.refl _ _).drew).drew
  have hn1 := Nat.le_trans hn₀ hb.size
  refine ⟨⟨rfl, cv, kv, StB.fold_put (H1.out.later hd) r ps (HM.out _ (grown_of_below hd))⟩, ((Bel.of hb hn₀).trans (Bel.of hd hn1)).trans ?_⟩
  exact Bel.by (setB_grown _ B.f _) hn1 (fun k e => by injection e with e; subst e; exact H1.out.base.2.2.2.1) (fun k _ e _ => by injection e with e; exact .inr (.inr (.inl e.symm)))
theorem some_err (v : Value) (ws : List ByteArray) (hsz : ∀ s ∈ ws, s.size ≤ 1048576) (w : World) (h : WordsAt w.heap.size w v ws) {k : Int} (he : someOf (wl ws) = .error k) : SomeErr v w k w.heap.size :=
  (some_calls v ws hsz w h).mono fun e w' ⟨h1, h2⟩ => ⟨by rw [he] at h1; exact h1, h2⟩
theorem some_ok (v : Value) (ws : List ByteArray) (hsz : ∀ s ∈ ws, s.size ≤ 1048576) (w : World) (h : WordsAt w.heap.size w v ws) {r : Int} {ps : List Int} (hne : ps ≠ []) (he : someOf (wl ws) = .ok (r :: ps)) : SomeOk v w r ps :=
  (some_calls v ws hsz w h).mono fun e w' ⟨h1, h2⟩ => by
    rw [he] at h1
    obtain ⟨v', rfl, ho⟩ := h1
    obtain ⟨g, c, rfl, _, hc1, hc2, hg, _, hp⟩ := PtsB.tail ho hne
    exact ⟨⟨g, c, rfl, hc1, hc2, hg, hp⟩, h2⟩
theorem foldLine_calls {B : Blocks} {cv kv : Value} {n₀ : Nat} {st : St} {line : Int} (v : Value) (ws : List ByteArray) (hsz : ∀ s ∈ ws, s.size ≤ 1048576) (w : World) (h : StB B cv kv n₀ w st line) (hn₀ : n₀ ≤ w.heap.size) (hw : WordsAt w.heap.size w v ws) :
    Calls Tryz.prog 66 #[.pointer (some ⟨B.x, 0, none⟩), v] w fun e w' => MethOut B n₀ line (doFold st (wl ws)) e w' ∧ Bel B n₀ w w' := by
  unfold doFold
  cases hs : someOf (wl ws) with
  | error k => exact (fold_err B.x v k w (Lib.hid (some_err v ws hsz w hw hs))).mono fun e w' ⟨h1, h2⟩ => ⟨h1, Bel.of h2 hn₀⟩
  | ok l =>
    obtain ⟨r, ps, rfl, hne, h8⟩ := someOf_len hs
    have h1 : 1 ≤ ps.length := List.length_pos_iff.2 hne
    have hso := Lib.hid (some_ok v ws hsz w hw hne hs)
    simp only
    cases hl : lookD st.d.folds r with
    | none =>
      rw [if_neg (by simp)]
      exact fold_new v w h hn₀ r ps h1 h8 hso hl
    | some q =>
      rw [if_pos (by simp)]
      exact (fold_twice v w h r ps hso (by rw [hl]; rfl)).mono fun e w' ⟨h1, h2⟩ => ⟨h1, Bel.of h2 hn₀⟩
end Go.Proofs.YtikpkjpnehkbfaaGreatDoor.Pr
namespace Go.Proofs.YtikpkjpnehkbfaaGreatDoor.Pr
open Go Go.RowKit Go.Shelf Go.Proofs.YtikpkjpnehkbfaaGreatDoor.Sp Go.Proofs.YtikpkjpnehkbfaaGreatDoor.Mapl Go.Proofs.YtikpkjpnehkbfaaGreatDoor.Rowl
theorem least_snoc (l : List (Int × List Int)) (r : Int) (ps : List Int) (x y : Int) :
    least (l ++ [(r, ps)]) x y = if ps = [x, y] then (match least l x y with | none => some r | some m => if r < m then some r else some m) else least l x y := by
  unfold least
  rw [List.foldl_append]
  rfl
def pairKey (x y : Int) : Value := .agg #[.int .i32 x, .int .i32 y]
theorem pairKey_inj {x y a b : Int} (h : pairKey x y = pairKey a b) : x = a ∧ y = b := by
  simp only [pairKey, Value.agg.injEq, Array.mk.injEq, List.cons.injEq, Value.int.injEq, true_and, and_true] at h
  exact h
theorem find_key (x y : Int) (W : World) : ∀ (es : List MapEntry) (i : Nat), (∀ e ∈ es, ∃ x y, e.key = pairKey x y) →
    ((Instr.findAsking 151 (pairKey x y) es i).run Tryz.prog W = .ok none W ∧ ∀ e ∈ es, e.key ≠ pairKey x y) ∨
      ∃ j e, (Instr.findAsking 151 (pairKey x y) es i).run Tryz.prog W = .ok (some (i + j, e.val)) W ∧ es[j]? = some e ∧ e.key = pairKey x y
  | [], _, _ => .inl ⟨by simp [Instr.findAsking], by simp⟩
  | e :: es, i, h => by
    obtain ⟨a, b, h1⟩ := h e (by simp)
    by_cases hk : a = x ∧ b = y
    · obtain ⟨rfl, rfl⟩ := hk
      refine .inr ⟨0, e, ?_, rfl, h1⟩
      rw [Instr.findAsking]
      simp [h1, pairKey, eq_pair, Result.andThen]
    · have hk' : (x == a && y == b) = false := by
        simp only [Bool.and_eq_false_iff, beq_eq_false_iff_ne, ne_eq]
        by_cases hx : x = a
        · exact .inr fun hy => hk ⟨hx.symm, hy.symm⟩
        · exact .inl hx
      have e1 : (Instr.findAsking 151 (pairKey x y) (e :: es) i).run Tryz.prog W = (Instr.findAsking 151 (pairKey x y) es (i + 1)).run Tryz.prog W := by
        rw [Instr.findAsking]
        simp [h1, pairKey, eq_pair, hk', Result.andThen]
      rw [e1]
      rcases find_key x y W es (i + 1) (fun e' he => h e' (by simp [he])) with ⟨h4, h5⟩ | ⟨j, e', h4, h5, h6⟩
      · refine .inl ⟨h4, fun e' he => ?_⟩
        rcases List.mem_cons.1 he with rfl | he
        · rw [h1]
          exact fun hh => hk (pairKey_inj hh)
        · exact h5 e' he
      · exact .inr ⟨j + 1, e', by rw [h4, show i + 1 + j = i + (j + 1) by omega], by simpa using h5, h6⟩
theorem find_pairs (x y : Int) (W : World) (es : List MapEntry) (h : ∀ e ∈ es, ∃ x y, e.key = pairKey x y) :
    ((Instr.findKey 151 (pairKey x y) es).run Tryz.prog W = .ok none W ∧ ∀ e ∈ es, e.key ≠ pairKey x y) ∨
      ∃ (j : Nat) (e : MapEntry), (Instr.findKey 151 (pairKey x y) es).run Tryz.prog W = .ok (some (j, e.val)) W ∧ es[j]? = some e ∧ e.key = pairKey x y := by
  have hf : (Instr.findKey 151 (pairKey x y) es).run Tryz.prog W = (if es = [] then Result.ok none W else (Instr.findAsking 151 (pairKey x y) es).run Tryz.prog W) := by
    cases es with
    | nil => simp [Instr.findKey, run_underlying Tryz.underlying151, Instr.findNow, Result.andThen]
    | cons e es => simp [Instr.findKey, run_underlying Tryz.underlying151, Instr.findNow, Instr.sameNow, Result.andThen]
  rw [hf]
  by_cases hn : es = []
  · subst hn
    exact .inl ⟨by simp, by simp⟩
  · rw [if_neg hn]
    rcases find_key x y W es 0 h with h1 | ⟨j, e, h1, h2, h3⟩
    · exact .inl h1
    · exact .inr ⟨j, e, by rw [h1, Nat.zero_add], h2, h3⟩
theorem same_pair (x y : Int) : Instr.sameBits 10000 (pairKey x y) (pairKey x y) = true := by
  show (_ == _ && List.all _ _) = true
  simp [pairKey, Instr.sameBits]
theorem run_pair_new (w : World) {b : Nat} {es : Array MapEntry} {clock : Nat} (x y : Int) (val : Value) (hb : w.heap[b]? = some (.map es clock)) (hf : (Instr.findKey 151 (pairKey x y) es.toList).run Tryz.prog w = .ok none w) :
    (Instr.mapUpdate 90 (.map (some b)) (pairKey x y) val).run Tryz.prog w = .ok () (setB w b (.map (es.push { key := pairKey x y, val, born := clock }) (clock + 1))) := by
  have hc : (Instr.checkKey false 10000 151 (pairKey x y)).run Tryz.prog w = .ok () w := check_pair x y false w
  simp [Instr.mapUpdate, run_underlying Tryz.underlying90, MapKept.run_getObj_map hb, hc, hf, MapKept.run_setObj_map _ hb, Result.andThen, setB]
theorem run_pair_old (w : World) {b : Nat} {es : Array MapEntry} {clock : Nat} (x y : Int) (val : Value) (hb : w.heap[b]? = some (.map es clock)) (i : Nat) (e : MapEntry) (hf : (Instr.findKey 151 (pairKey x y) es.toList).run Tryz.prog w = .ok (some (i, e.val)) w) (hi : es[i]? = some e) (hk : e.key = pairKey x y) :
    (Instr.mapUpdate 90 (.map (some b)) (pairKey x y) val).run Tryz.prog w = .ok () (setB w b (.map (es.modify i fun e => { e with key := pairKey x y, val }) clock)) := by
  have hc : (Instr.checkKey false 10000 151 (pairKey x y)).run Tryz.prog w = .ok () w := check_pair x y false w
  simp [Instr.mapUpdate, run_underlying Tryz.underlying90, MapKept.run_getObj_map hb, hc, hf, hi, Instr.keyThatStays, hk, same_pair, MapKept.run_setObj_map _ hb, Result.andThen, setB]
section
variable {W : World} {b : Nat} {l : List (Int × List Int)}
theorem MapPair.other (h : MapPair W b l) (r : Int) (ps : List Int) (hl : ps.length ≠ 2) : MapPair W b (l ++ [(r, ps)]) := by
  have e : ∀ x y, least (l ++ [(r, ps)]) x y = least l x y := fun x y => by rw [least_snoc, if_neg (by rintro rfl; simp at hl)]
  obtain ⟨es, clk, hh, h1, h2, h3⟩ := h
  refine ⟨es, clk, hh, fun e' he => ?_, fun x y r' hr => ?_, h3⟩
  · obtain ⟨x, y, r', k1, k2, k3⟩ := h1 e' he
    exact ⟨x, y, r', k1, k2, by rw [e]; exact k3⟩
  · rw [e] at hr
    exact h2 x y r' hr
theorem MapPair.more (h : MapPair W b l) (r a c m : Int) (hm : least l a c = some m) (hr : ¬ r < m) : MapPair W b (l ++ [(r, [a, c])]) := by
  have e : ∀ x y, least (l ++ [(r, [a, c])]) x y = least l x y := fun x y => by
    rw [least_snoc]
    by_cases hxy : [a, c] = [x, y]
    · rw [if_pos hxy]
      simp only [List.cons.injEq, and_true] at hxy
      obtain ⟨rfl, rfl⟩ := hxy
      rw [hm]
      simp only
      rw [if_neg hr]
    · rw [if_neg hxy]
  obtain ⟨es, clk, hh, h1, h2, h3⟩ := h
  refine ⟨es, clk, hh, fun e' he => ?_, fun x y r' hr => ?_, h3⟩
  · obtain ⟨x, y, r', k1, k2, k3⟩ := h1 e' he
    exact ⟨x, y, r', k1, k2, by rw [e]; exact k3⟩
  · rw [e] at hr
    exact h2 x y r' hr
theorem pair_keys {es : Array MapEntry} (h1 : ∀ e ∈ es.toList, ∃ x y r, e.key = .agg #[.int .i32 x, .int .i32 y] ∧ e.val = .int .i32 r ∧ least l x y = some r) : ∀ e ∈ es.toList, ∃ x y, e.key = pairKey x y := fun e he => by
  obtain ⟨x, y, _, k1, _⟩ := h1 e he
  exact ⟨x, y, k1⟩
theorem least_here (r a c : Int) (h : ∀ m, least l a c = some m → r < m) : least (l ++ [(r, [a, c])]) a c = some r := by
  rw [least_snoc, if_pos rfl]
  cases hm : least l a c with
  | none => rfl
  | some m => simp only; rw [if_pos (h m hm)]
theorem least_there (r a c x y : Int) (h : ¬ (x = a ∧ y = c)) : least (l ++ [(r, [a, c])]) x y = least l x y := by
  rw [least_snoc, if_neg (by
    intro e
    simp only [List.cons.injEq, and_true] at e
    exact h ⟨e.1.symm, e.2.symm⟩)]
theorem MapPair.put (h : MapPair W b l) (r a c : Int) (hr : ∀ m, least l a c = some m → r < m) :
    ∃ o : Obj, (∀ W', W'.heap[b]? = W.heap[b]? → (Instr.mapUpdate 90 (.map (some b)) (.agg #[.int .i32 a, .int .i32 c]) (.int .i32 r)).run Tryz.prog W' = .ok () (setB W' b o)) ∧ ∀ W', W'.heap[b]? = W.heap[b]? → MapPair (setB W' b o) b (l ++ [(r, [a, c])]) := by
  obtain ⟨es, clk, hh, h1, h2, h3⟩ := h
  rcases find_pairs a c W es.toList (pair_keys h1) with ⟨_, hno⟩ | ⟨j, e, _, he, hk⟩
  · refine ⟨.map (es.push { key := pairKey a c, val := .int .i32 r, born := clk }) (clk + 1), fun W' hW => ?_, fun W' hW => ?_⟩
    · rcases find_pairs a c W' es.toList (pair_keys h1) with ⟨hf, _⟩ | ⟨j, e, _, he, hk⟩
      · exact run_pair_new W' a c _ (hW.trans hh) hf
      · exact absurd hk (hno e (List.mem_of_getElem? he))
    · refine ⟨_, _, setB_same (hW.trans hh), fun e he => ?_, fun x y r' hr' => ?_, ?_⟩
      · simp only [Array.toList_push, List.mem_append, List.mem_singleton] at he
        rcases he with he | rfl
        · obtain ⟨x, y, r', k1, k2, k3⟩ := h1 e he
          refine ⟨x, y, r', k1, k2, ?_⟩
          rw [least_there r a c x y]
          · exact k3
          · rintro ⟨rfl, rfl⟩
            exact hno e he k1
        · exact ⟨a, c, r, rfl, rfl, least_here r a c hr⟩
      · by_cases hxy : x = a ∧ y = c
        · obtain ⟨rfl, rfl⟩ := hxy
          exact ⟨_, by simp; exact .inr rfl, rfl⟩
        · rw [least_there r a c x y hxy] at hr'
          obtain ⟨e, he, hk⟩ := h2 x y r' hr'
          exact ⟨e, by simp [he], hk⟩
      · simp only [Array.toList_push, List.map_append, List.map_cons, List.map_nil]
        rw [List.nodup_append]
        refine ⟨h3, by simp, fun k hk1 k' hk2 => ?_⟩
        simp only [List.mem_singleton] at hk2
        subst hk2
        obtain ⟨e, he, rfl⟩ := List.mem_map.1 hk1
        exact hno e he
  · have hes : es[j]? = some e := by rw [← Array.getElem?_toList]; exact he
    have hj : j < es.size := (Array.getElem?_eq_some_iff.1 hes).1
    refine ⟨.map (es.modify j fun e => { e with key := pairKey a c, val := .int .i32 r }) clk, fun W' hW => ?_, fun W' hW => ?_⟩
    · rcases find_pairs a c W' es.toList (pair_keys h1) with ⟨_, hno⟩ | ⟨j', e', hf, he', hk'⟩
      · exact absurd hk (hno e (List.mem_of_getElem? he))
      · have hjj : j' = j := by
          have hl : ∀ {i : Nat} {e : MapEntry}, es.toList[i]? = some e → e.key = pairKey a c → (es.toList.map (·.key))[i]? = some (pairKey a c) := fun hi hk => by rw [List.getElem?_map, hi]; simp [hk]
          have a1 := hl he' hk'
          have a2 := hl he hk
          exact (List.getElem?_inj (by have := (List.getElem?_eq_some_iff.1 he').1; simpa using this) h3).1 (a1.trans a2.symm)
        subst hjj
        exact run_pair_old W' a c _ (hW.trans hh) j' e' hf (by rw [← Array.getElem?_toList]; exact he') hk'
    · have hmod : (es.modify j fun e => { e with key := pairKey a c, val := .int .i32 r }).toList = es.toList.set j { e with key := pairKey a c, val := .int .i32 r } := by
        apply List.ext_getElem?
        intro i
        rw [Array.getElem?_toList, Array.getElem?_modify, List.getElem?_set]
        by_cases hij : j = i
        · subst hij
          rw [if_pos rfl, if_pos rfl, if_pos (by simpa using hj), hes]
          rfl
        · rw [if_neg hij, if_neg hij, Array.getElem?_toList]
      have hkeys : (es.toList.set j { e with key := pairKey a c, val := .int .i32 r }).map (·.key) = es.toList.map (·.key) := by
        rw [List.map_set]
        apply List.ext_getElem?
        intro i
        rw [List.getElem?_set]
        by_cases hij : j = i
        · subst hij
          rw [if_pos rfl, if_pos (by simpa using hj), List.getElem?_map, he]
          simp [hk]
        · rw [if_neg hij]
      have hnd : ∀ {i : Nat} {e' : MapEntry}, es.toList[i]? = some e' → e'.key = pairKey a c → i = j := fun {i e'} hi hk' =>
        (List.getElem?_inj (by have := (List.getElem?_eq_some_iff.1 hi).1; simpa using this) h3).1 (by rw [List.getElem?_map, List.getElem?_map, hi, he]; simp [hk, hk'])
      refine ⟨_, _, setB_same (hW.trans hh), fun e' he' => ?_, fun x y r' hr' => ?_, ?_⟩
      · rw [hmod] at he'
        obtain ⟨i, hi⟩ := List.mem_iff_getElem?.1 he'
        rw [List.getElem?_set] at hi
        by_cases hij : j = i
        · rw [if_pos hij] at hi
          split at hi
          · injection hi with hi
            subst hi
            exact ⟨a, c, r, rfl, rfl, least_here r a c hr⟩
          · cases hi
        · rw [if_neg hij] at hi
          obtain ⟨x, y, r', k1, k2, k3⟩ := h1 e' (List.mem_of_getElem? hi)
          refine ⟨x, y, r', k1, k2, ?_⟩
          rw [least_there r a c x y]
          · exact k3
          · rintro ⟨rfl, rfl⟩
            exact hij (hnd hi k1).symm
      · rw [hmod]
        by_cases hxy : x = a ∧ y = c
        · obtain ⟨rfl, rfl⟩ := hxy
          exact ⟨_, List.mem_iff_getElem?.2 ⟨j, by rw [List.getElem?_set, if_pos rfl, if_pos (by simpa using hj)]⟩, rfl⟩
        · rw [least_there r a c x y hxy] at hr'
          obtain ⟨e', he', hk'⟩ := h2 x y r' hr'
          obtain ⟨i, hi⟩ := List.mem_iff_getElem?.1 he'
          refine ⟨e', List.mem_iff_getElem?.2 ⟨i, ?_⟩, hk'⟩
          rw [List.getElem?_set, if_neg]
          · exact hi
          · rintro rfl
            rw [he] at hi
            injection hi with hi
            subst hi
            exact hxy (pairKey_inj (hk'.symm.trans hk))
      · rw [hmod, hkeys]
        exact h3
end
end Go.Proofs.YtikpkjpnehkbfaaGreatDoor.Pr
namespace Go.Proofs.YtikpkjpnehkbfaaGreatDoor.Pr
open Go Go.RowKit Go.Shelf Go.Proofs.YtikpkjpnehkbfaaGreatDoor.Sp Go.Proofs.YtikpkjpnehkbfaaGreatDoor.Mapl Go.Proofs.YtikpkjpnehkbfaaGreatDoor.Rowl
theorem int_keys {es : Array MapEntry} {l : List (Int × Int)} (hs : es.size = l.length) (hc : ∀ (i : Nat) (p : Int × Int), l[i]? = some p → ∃ e : MapEntry, es[i]? = some e ∧ e.key = .int .i32 p.1 ∧ e.val = .int .i64 p.2) : ∀ e ∈ es.toList, ∃ p ∈ l, e.key = .int .i32 p.1 := by
  intro e he
  obtain ⟨i, hi⟩ := List.mem_iff_getElem?.1 he
  have hil : i < l.length := by have := (List.getElem?_eq_some_iff.1 hi).1; simp at this; omega
  obtain ⟨e', h1, h2, _⟩ := hc i l[i] (List.getElem?_eq_getElem hil)
  rw [← Array.getElem?_toList, hi] at h1
  injection h1 with h1
  subst h1
  exact ⟨_, List.getElem_mem hil, h2⟩
theorem MapInt.put {W : World} {b : Nat} {l : List (Int × Int)} (h : MapInt W b l) (r v : Int) (hr : r ∉ l.map (·.1)) :
    ∃ o : Obj, (∀ W', W'.heap[b]? = W.heap[b]? → (Instr.mapUpdate 94 (.map (some b)) (.int .i32 r) (.int .i64 v)).run Tryz.prog W' = .ok () (setB W' b o)) ∧ ∀ W', W'.heap[b]? = W.heap[b]? → MapInt (setB W' b o) b (l ++ [(r, v)]) := by
  obtain ⟨es, clk, hh, hs, hc, hclk, hborn⟩ := h
  refine ⟨.map (es.push { key := .int .i32 r, val := .int .i64 v, born := clk }) (clk + 1), fun W' hW => ?_, fun W' hW => ?_⟩
  · refine run_update_new W' (keyI .i32 r) (.int .i32 r) _ Tryz.underlying94 (hW.trans hh) (check_int W' Tryz.underlying21 false) (find_int W' Tryz.underlying21 es.toList (fun e he => ?_)) (found_none fun e he => ?_)
    · obtain ⟨p, _, k⟩ := int_keys hs hc e he
      exact ⟨_, k⟩
    · obtain ⟨p, hp, k⟩ := int_keys hs hc e he
      rw [k]
      simp only [keyI, beq_self_eq_true, Bool.true_and, beq_eq_false_iff_ne, ne_eq]
      rintro rfl
      exact hr (List.mem_map.2 ⟨p, hp, rfl⟩)
  · refine ⟨_, _, setB_same (hW.trans hh), by simp [hs], fun i p hi => ?_, by simp [hclk], fun i e he => ?_⟩
    rotate_left
    · rw [Array.getElem?_push] at he
      split at he
      · rename_i hi
        injection he with he
        subst he
        exact hclk.trans hi.symm
      · exact hborn i e he
    by_cases hil : i < l.length
    · rw [List.getElem?_append_left hil] at hi
      obtain ⟨e, e1, e2⟩ := hc i p hi
      refine ⟨e, ?_, e2⟩
      rw [Array.getElem?_push, if_neg (by omega)]
      exact e1
    · have hi2 : i < (l ++ [(r, v)]).length := (List.getElem?_eq_some_iff.1 hi).1
      simp at hi2
      have hie : i = l.length := by omega
      subst hie
      simp only [List.getElem?_concat_length, Option.some.injEq] at hi
      subst hi
      exact ⟨_, by rw [Array.getElem?_push, if_pos hs.symm], rfl, rfl⟩
section
variable {B : Blocks} {cv kv : Value} {n₀ : Nat} {W W2 : World} {st : St} {line : Int}
theorem StB.decomp_put (h : StB B cv kv n₀ W st line) (r : Int) (ps : List Int) (hb : ∀ k, k < W.heap.size → k ≠ B.d → k ≠ B.l → k ≠ B.q → W2.heap[k]? = W.heap[k]?)
    (hmd : MapPts W2 B.d (st.d.decomps ++ [(r, ps)])) (hml : MapInt W2 B.l (st.lines ++ [(r, line)])) (hmq : MapPair W2 B.q (st.d.decomps ++ [(r, ps)])) :
    StB B cv kv n₀ W2 { d := { st.d with decomps := st.d.decomps ++ [(r, ps)] }, lines := st.lines ++ [(r, line)] } line := by
  have hnm := h.nm
  have hne := h.ne
  obtain ⟨_, _, f1, _⟩ := h.mf
  obtain ⟨_, _, l1, _⟩ := h.ml
  obtain ⟨_, _, d1, _⟩ := h.md
  obtain ⟨_, _, q1, _⟩ := h.mq
  have own : ∀ {v : Value} {n : Nat} {xs : List Value}, W.ownsRow n₀ 162 3 v n xs → W2.ownsRow n₀ 162 3 v n xs := fun {v n xs} hv => by
    obtain ⟨k1, k2⟩ := hv
    refine ⟨k1, ?_⟩
    rcases k2 with k2 | ⟨g, cap, cur, rfl, hg, hh, rest⟩
    · exact .inl k2
    · refine .inr ⟨g, cap, cur, rfl, hg, ?_, rest⟩
      rw [hb g (lt_of_block hh) (fun e => cells_not_map (e ▸ hh) d1) (fun e => cells_not_map (e ▸ hh) l1) (fun e => cells_not_map (e ▸ hh) q1)]
      exact hh
  have pts : ∀ {v : Value} {l : List Int}, PtsB W v l → PtsB W2 v l := fun {v l} ⟨b, off, cap, cs, e, hh, rest⟩ => by
    refine ⟨b, off, cap, cs, e, ?_, rest⟩
    rw [hb b (lt_of_block hh) (fun e => cells_not_map (e ▸ hh) d1) (fun e => cells_not_map (e ▸ hh) l1) (fun e => cells_not_map (e ▸ hh) q1)]
    exact hh
  exact {
    hx := (hb _ (lt_of_block h.hx) hnm.2.1.2.2.1 hnm.2.1.1 hnm.2.1.2.2.2).trans h.hx
    hp := (hb _ (lt_of_block h.hp) hnm.2.2.2.2.1 hnm.2.2.1 hnm.2.2.2.2.2).trans h.hp
    base := h.base
    ne := h.ne
    hc := own h.hc
    hk := own h.hk
    apart := h.apart
    mf := by
      obtain ⟨es, clk, hh, hs, hc⟩ := h.mf
      refine ⟨es, clk, ?_, hs, fun i p hi => ?_⟩
      · rw [hb _ (lt_of_block hh) hne.2.2.2.1 (fun e => hne.1 e.symm) hne.2.2.2.2.1]; exact hh
      · obtain ⟨e, e1, e2, e3⟩ := hc i p hi
        exact ⟨e, e1, e2, pts e3⟩
    md := hmd
    ml := hml
    mq := hmq }
end
end Go.Proofs.YtikpkjpnehkbfaaGreatDoor.Pr
