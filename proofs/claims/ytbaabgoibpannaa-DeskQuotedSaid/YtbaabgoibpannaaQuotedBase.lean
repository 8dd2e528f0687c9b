/- DeskQuoted over numbers and lists alone: quoted words are found as what was quoted, however many blanks stand between them. -/
import Derived.Test.YtbaabgoibpannaaQuotedWalk
import Derived.Lib.Strings
namespace Go.Proofs.Ytbaabgoibpannaa.PDeskQuoted
open Go.RowKit Go.Proofs.YtbaabgoibpannaaW.PrintWords Go.Proofs.YtbaabgoibpannaaW.PrintLast Go.Proofs.YtbaabgoibpannaaW.PrintMore
set_option linter.unusedVariables false
set_option linter.unusedSimpArgs false

/-! ### bytes and their places -/
theorem by_len (s : ByteArray) : (bytesOf s).length = s.size := bytesOf_length s
theorem bt_of (s : ByteArray) (pre suf : List Int) (c : Int) (h : bytesOf s = pre ++ c :: suf) : bt s (pre.length : Int) = c := by
  have hl : pre.length < s.size := by rw [← by_len, h]; simp
  unfold bt
  rw [Int.toNat_natCast, dif_pos hl]
  have h2 : (bytesOf s)[pre.length]? = some c := by rw [h]; simp
  have h3 : (bytesOf s)[pre.length]? = some ((s[pre.length]'hl).toNat : Int) := by
    unfold bytesOf
    rw [List.getElem?_map, Array.getElem?_toList]
    have : s.data[pre.length]? = some (s[pre.length]'hl) := by
      rw [Array.getElem?_eq_getElem (by exact hl)]; rfl
    rw [this]; rfl
  rw [h3] at h2
  exact Option.some.inj h2
theorem size_of (s : ByteArray) (l : List Int) (h : bytesOf s = l) : s.size = l.length := by rw [← by_len, h]
theorem bytes_append (a b : ByteArray) : bytesOf (a ++ b) = bytesOf a ++ bytesOf b := by
  unfold bytesOf
  rw [ByteArray.data_append]
  simp
theorem bytes_range (s : ByteArray) : ∀ c ∈ bytesOf s, 0 ≤ c ∧ c ≤ 255 := by
  intro c hc
  unfold bytesOf at hc
  obtain ⟨b, _, rfl⟩ := List.mem_map.1 hc
  have := b.toNat_lt
  omega
theorem str_bytes (s : ByteArray) : strOfNums (bytesOf s) = s := by
  unfold strOfNums bytesOf
  rw [List.map_map]
  have : ((fun n : Int => UInt8.ofNat n.toNat) ∘ fun b : UInt8 => (b.toNat : Int)) = id := by
    funext b; simp
  rw [this]
  cases s; simp
theorem bytes_str (l : List Int) (h : ∀ c ∈ l, 0 ≤ c ∧ c ≤ 255) : bytesOf (strOfNums l) = l := by
  unfold strOfNums bytesOf
  simp only [List.map_map]
  rw [List.map_congr_left (g := id)]
  · simp
  · intro c hc
    have := h c hc
    simp only [Function.comp_apply, UInt8.toNat_ofNat', id]
    omega
theorem bytes_extract (s : ByteArray) (a : Nat) : bytesOf (s.extract a s.size) = (bytesOf s).drop a := by
  unfold bytesOf
  rw [Lib.extract_data, List.take_of_length_le (by rw [List.length_drop, data_length]; exact Nat.le_refl _), List.map_drop]
theorem w64 (n : Int) (h0 : 0 ≤ n) (h1 : n < 9223372036854775808) : wrap64 n = n := by unfold wrap64; omega

/-! ### what is quoted -/
def hx (n : Int) : Int := if n < 10 then 48 + n else 87 + n
def encB (c : Int) : List Int :=
  if c = 34 ∨ c = 92 then [92, c] else if c = 10 then [92, 110] else if c < 32 ∨ c > 126 then [92, 120, hx (c / 16), hx (c % 16)] else [c]
def encs' (l : List Int) : List Int := l.flatMap encB
theorem encB_len (c : Int) : (encB c).length ≤ 4 ∧ 1 ≤ (encB c).length := by unfold encB; split <;> (try split) <;> (try split) <;> simp
theorem encs_len (l : List Int) : (encs' l).length ≤ 4 * l.length := by
  induction l with
  | nil => simp [encs']
  | cons c l ih =>
    have := encB_len c
    simp only [encs', List.flatMap_cons, List.length_append, List.length_cons] at ih ⊢
    omega
theorem hx_range (n : Int) (h0 : 0 ≤ n) (h1 : n < 16) : 0 ≤ hx n ∧ hx n ≤ 255 := by unfold hx; split <;> omega
theorem encB_range (c : Int) (h : 0 ≤ c ∧ c ≤ 255) : ∀ d ∈ encB c, 0 ≤ d ∧ d ≤ 255 := by
  have h1 := hx_range (c / 16) (by omega) (by omega)
  have h2 := hx_range (c % 16) (by omega) (by omega)
  intro d hd
  unfold encB at hd
  split at hd
  · simp at hd; omega
  · split at hd
    · simp at hd; omega
    · split at hd
      · simp at hd; omega
      · simp at hd; omega
theorem encs_range (l : List Int) (h : ∀ c ∈ l, 0 ≤ c ∧ c ≤ 255) : ∀ d ∈ encs' l, 0 ≤ d ∧ d ≤ 255 := by
  intro d hd
  obtain ⟨c, hc, hd⟩ := List.mem_flatMap.1 hd
  exact encB_range c (h c hc) d hd
theorem hex_w (n : Int) (h0 : 0 ≤ n) (h1 : n < 16) : glossarylaw32_hex.f n = some (hx n) := by
  unfold glossarylaw32_hex.f hx
  by_cases h : n < 10
  · rw [if_pos h, if_pos h]; congr 1; omega
  · rw [if_neg h, if_neg h]; congr 1; omega
theorem hex_r (n : Int) (h0 : 0 ≤ n) (h1 : n < 16) : Ev (fun k => desk_hex.f k (hx n)) n := by
  refine ⟨2, fun k hk => ?_⟩
  obtain ⟨k, rfl⟩ : ∃ m, k = m + 2 := ⟨k - 2, by omega⟩
  unfold desk_hex.f hx
  by_cases h : n < 10
  · simp only [if_pos h]
    rw [if_pos (by omega)]
    simp only [desk_hex.j0]
    rw [if_pos (by simp; omega)]
    congr 1; omega
  · simp only [if_neg h]
    rw [if_pos (by omega)]
    simp only [desk_hex.j0]
    rw [if_neg (by simp; omega), if_pos (by omega)]
    simp only [desk_hex.j1]
    rw [if_pos (by simp; omega)]
    congr 1; omega
theorem or_fin : ∀ a b : Fin 16, Go.bits .or .u8 (((a.val : Int) * 16) % 256) (b.val : Int) = 16 * (a.val : Int) + b.val := by decide +kernel
theorem or_at (c : Int) (h : 0 ≤ c ∧ c ≤ 255) : Go.bits .or .u8 (((c / 16) * 16) % 256) (c % 16) = c := by
  have h1 := or_fin ⟨(c / 16).toNat, by omega⟩ ⟨(c % 16).toNat, by omega⟩
  simp only at h1
  rw [show (((c / 16).toNat : Nat) : Int) = c / 16 from by omega, show (((c % 16).toNat : Nat) : Int) = c % 16 from by omega] at h1
  rw [h1]; omega

end Go.Proofs.Ytbaabgoibpannaa.PDeskQuoted
