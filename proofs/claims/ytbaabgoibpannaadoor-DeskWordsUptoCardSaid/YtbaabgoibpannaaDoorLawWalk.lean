/- What DeskWords comes to, at two lines of at most 2^20 bytes each, in any memory in which the library's variable errorType holds the type error: true; nothing older is written. -/
import Derived.Test.YtbaabgoibpannaaDoorWordsLaw
import Derived.Test.YtbaabgoibpannaaDoorErrDesk
import Derived.Test.YtbaabgoibpannaaDoorApartTexts
namespace Go.Proofs.YtbaabgoibpannaaDoor.PDeskWords
open Go.RowKit Go.Proofs.YtbaabgoibpannaaDoorW.PrintWords Go.Proofs.YtbaabgoibpannaaDoorW.PrintLast Go.Proofs.YtbaabgoibpannaaDoorW.PrintMore
open Go.Proofs.YtbaabgoibpannaaDoor.Errs Go.Proofs.YtbaabgoibpannaaDoor.Rowl
set_option linter.unusedVariables false
set_option linter.unusedSimpArgs false

/-- errF's values as the words' walk has them. -/
theorem plain_ok (e : Option Int) (he : e = none ∨ e = some 6) (w : World) (hg : Handle w) : Calls Tryd.prog 6 #[errF e, .int .i64 (e.getD 0)] w fun en w' => en = .returned (.bool true) ∧ Below w.heap.size w w' := by
  rcases he with rfl | rfl
  · exact (Plain_nil 0 w).mono fun en w' ⟨h1, h2⟩ => ⟨h1, h2⟩
  · exact (Plain_of 41 (.agg #[.string ⟨#[119, 111, 114, 100, 115]⟩, .int .i64 6]) 6 6 false (says_desk _ 6) (by decide) (by decide) (as_says_desk _ 6) w hg).mono fun en w' ⟨h1, h2⟩ => ⟨h1, h2⟩

/-- A list of words that was made since: as a value, and that it lies in blocks between two sizes. -/
structure Made (lo hi : Nat) (w : World) (v : Value) (l : List ByteArray) : Prop where
  row : ∃ A c xs, v = .slice A l.length c ∧ l.length ≤ c ∧ w.ownsRow lo 9 1 v l.length xs
  reads : ∀ A c, v = .slice A l.length c → Kd.C Kd.string w A l.length l
  lt : ∀ b, v.ownBlock = some b → lo ≤ b ∧ b < hi
theorem Made.of {w w' : World} {v : Value} {l : List ByteArray} (h : Kd.R Kd.string 9 w' w.heap.size (fun _ => True) v l) : Made w.heap.size w'.heap.size w' v l := by
  obtain ⟨A, c, e1, e2, e3⟩ := Kd.R_reads h
  obtain ⟨inner, hi⟩ := Kd.R_own h
  refine ⟨⟨A, c, inner, e1, e2, hi⟩, fun A' c' e => ?_, fun b hb => hi.lt b hb⟩
  rw [e1] at e
  injection e with e4 _ _
  subst e4
  exact e3
theorem Made.later {lo hi : Nat} {w w' : World} {v : Value} {l : List ByteArray} (h : Made lo hi w v l) (hb : Below w.heap.size w w') : Made lo hi w' v l := by
  obtain ⟨⟨A, c, xs, e1, e2, e3⟩, h2, h3⟩ := h
  exact ⟨⟨A, c, xs, e1, e2, own_later e3 hb⟩, fun A' c' e => Kd.C_below (h2 A' c' e) hb, h3⟩
theorem Made.alloc {lo hi : Nat} {w : World} {v : Value} {l : List ByteArray} (h : Made lo hi w v l) (o : Obj) : Made lo hi (w.alloc o) v l := h.later ((Below.refl _ _).alloc (Nat.le_refl _) o)
theorem Made.same {lo hi lo' hi' : Nat} {w : World} {v v' : Value} {l : List ByteArray} (h : Made lo hi w v l) (h' : Made lo' hi' w v' l) (hl : l.length ≤ 1048576) : Calls Tryd.prog 7 #[v, v'] w fun en w' => en = .returned (.bool true) ∧ Below w.heap.size w w' := by
  obtain ⟨⟨A, c, xs, e1, e2, e3⟩, h2, _⟩ := h
  obtain ⟨⟨A', c', xs', e1', e2', e3'⟩, h2', _⟩ := h'
  obtain ⟨k, hk⟩ := same_is l hl
  subst e1
  subst e1'
  refine (glossaryref0_SameTexts.calls k A c l A' c' l true w (h2 A c rfl) e2 (h2' A' c' rfl) e2' hk).mono fun en w' ⟨h1, h3⟩ => ⟨h1, ?_⟩
  obtain ⟨nd, rfl⟩ := h3
  exact pw_below_drewN (Below.refl _ _) nd

def mkT (k i : Nat) : ByteArray := strOfNums [35, (k : Int) % 256, ((k : Int) / 256) % 256, (i : Int) % 256, ((i : Int) / 256) % 256]
theorem mark_is (k i : Int) (w : World) (h0 : 0 ≤ k) (h1 : k < 4294967296) (h2 : 0 ≤ i) (h3 : i < 1099511628000) : Calls Tryd.prog 15 #[.int .i64 k, .int .i64 i] w fun e w' => e = .returned (.string (mkT k.toNat i.toNat)) ∧ Below w.heap.size w w' := by
  refine (glossarykit_markTexts.calls k i (mkT k.toNat i.toNat) w ?_).mono fun e w' h => h
  unfold glossarykit_markTexts.f glossarykit_MarkText.f mkT
  simp only [Option.bind_some]
  rw [Int.toNat_of_nonneg h0, Int.toNat_of_nonneg h2]
def three (a b c : Value) (k : Nat) : Value := if k = 0 then a else if k = 1 then b else c
/-- Three lists, each made since the one before: they lie apart. -/
theorem three_apart (w W : World) (a b c : Value) (la lb lc : List ByteArray) (z0 z1 z2 z3 : Nat) (hz : w.heap.size ≤ z0 ∧ z0 ≤ z1 ∧ z1 ≤ z2 ∧ z2 ≤ z3 ∧ z3 ≤ W.heap.size) (ha : Made z0 z1 W a la) (hb : Made z1 z2 W b lb) (hc : Made z2 z3 W c lc)
    (hla : la.length ≤ 1048576) (hlb : lb.length ≤ 1048576) (hlc : lc.length ≤ 1048576) :
    Calls Tryd.prog 8 #[.slice (some ⟨W.heap.size, 0, none⟩) 3 3] (W.alloc (.cells #[a, b, c] 22)) fun e w' => e = .returned (.bool true) ∧ Below w.heap.size W w' := by
  obtain ⟨⟨A, ca, xa, ea1, ea2, ea3⟩, _, ea4⟩ := ha
  obtain ⟨⟨B, cb, xb, eb1, eb2, eb3⟩, _, eb4⟩ := hb
  obtain ⟨⟨C, cc, xc, ec1, ec2, ec3⟩, _, ec4⟩ := hc
  have hnew : (W.alloc (.cells #[a, b, c] 22)).heap[W.heap.size]? = some (.cells #[a, b, c] 22) := heap_alloc_new W _
  refine (ApartTexts_calls mkT (fun k i w a1 a2 a3 a4 => mark_is k i w a1 a2 a3 a4) (W.alloc (.cells #[a, b, c] 22)) w.heap.size 3 (three a b c) (fun k => if k = 0 then la.length else if k = 1 then lb.length else lc.length) (fun k => if k = 0 then xa else if k = 1 then xb else xc) W.heap.size 0 3 ?_ ?_ ?_ ?_ (by decide) ?_ (by simp; omega)).mono fun e w' h => ⟨h.1, (((Below.refl _ _).alloc (by omega) _).trans h.2)⟩
  · intro k hk
    rcases (by omega : k = 0 ∨ k = 1 ∨ k = 2) with rfl | rfl | rfl
    · exact (own_weaken ea3 (by omega)).alloc _
    · exact (own_weaken eb3 (by omega)).alloc _
    · exact (own_weaken ec3 (by omega)).alloc _
  · intro j k hj hk hjk g hg hg'
    rcases (by omega : j = 0 ∨ j = 1 ∨ j = 2) with rfl | rfl | rfl <;> rcases (by omega : k = 0 ∨ k = 1 ∨ k = 2) with rfl | rfl | rfl <;> first
      | exact hjk rfl
      | (have h1 := ea4 g hg; have h2 := eb4 g hg'; omega)
      | (have h1 := ea4 g hg; have h2 := ec4 g hg'; omega)
      | (have h1 := eb4 g hg; have h2 := ea4 g hg'; omega)
      | (have h1 := eb4 g hg; have h2 := ec4 g hg'; omega)
      | (have h1 := ec4 g hg; have h2 := ea4 g hg'; omega)
      | (have h1 := ec4 g hg; have h2 := eb4 g hg'; omega)
  · intro k hk
    rw [Addr.add_lit]
    unfold World.cell?
    rcases (by omega : k = 0 ∨ k = 1 ∨ k = 2) with rfl | rfl | rfl
    · simp only [hnew]; rfl
    · simp only [hnew]; rfl
    · simp only [hnew]; rfl
  · intro k hk e
    rcases (by omega : k = 0 ∨ k = 1 ∨ k = 2) with rfl | rfl | rfl
    · have := ea4 _ e; simp only at this; omega
    · have := eb4 _ e; simp only at this; omega
    · have := ec4 _ e; simp only at this; omega
  · intro k hk
    rcases (by omega : k = 0 ∨ k = 1 ∨ k = 2) with rfl | rfl | rfl
    · exact Nat.le_trans hla (by decide)
    · exact Nat.le_trans hlb (by decide)
    · exact Nat.le_trans hlc (by decide)

set_option maxHeartbeats 4000000 in
set_option maxRecDepth 100000 in
theorem deskWords_any (s t : ByteArray) (hs : s.size ≤ 1048576) (ht : t.size ≤ 1048576) (w : World) (hg : Handle w) :
    Calls Tryd.prog 3 #[.string s, .string t] w fun e w' => e = .returned (.bool true) ∧ Below w.heap.size w w' := by
  obtain ⟨ls, es, ks, hls, hes, hs1, hs2⟩ := words_both s hs
  obtain ⟨lt, et, kt, hlt, het, ht1, ht2⟩ := words_both t ht
  have HS1 : Hid (∀ w, Calls Tryd.prog 5 #[.string s] w fun e w' => ∃ v, e = .returned (.tuple #[v, errF es]) ∧ Made w.heap.size w'.heap.size w' v ls ∧ Below w.heap.size w w') := Lib.hid fun w => (desk_Words.calls ks s ls es w hs1).mono fun e w' ⟨v, a, b, c⟩ => ⟨v, a, .of b, c⟩
  have HT1 : Hid (∀ w, Calls Tryd.prog 5 #[.string t] w fun e w' => ∃ v, e = .returned (.tuple #[v, errF et]) ∧ Made w.heap.size w'.heap.size w' v lt ∧ Below w.heap.size w w') := Lib.hid fun w => (desk_Words.calls kt t lt et w ht1).mono fun e w' ⟨v, a, b, c⟩ => ⟨v, a, .of b, c⟩
  have HS2 : Hid (∀ w, Calls Tryd.prog 4 #[.string s] w fun e w' => ∃ v, e = .returned (.tuple #[v, .int .i64 (es.getD 0)]) ∧ Made w.heap.size w'.heap.size w' v ls ∧ Below w.heap.size w w') := Lib.hid fun w => (glossaryref32_Words.calls ks s ls _ w hs2).mono fun e w' ⟨v, a, b, c⟩ => ⟨v, a, .of b, c⟩
  have HT2 : Hid (∀ w, Calls Tryd.prog 4 #[.string t] w fun e w' => ∃ v, e = .returned (.tuple #[v, .int .i64 (et.getD 0)]) ∧ Made w.heap.size w'.heap.size w' v lt ∧ Below w.heap.size w w') := Lib.hid fun w => (glossaryref32_Words.calls kt t lt _ w ht2).mono fun e w' ⟨v, a, b, c⟩ => ⟨v, a, .of b, c⟩
  have HPs : Hid (∀ w, Handle w → Calls Tryd.prog 6 #[errF es, .int .i64 (es.getD 0)] w fun en w' => en = .returned (.bool true) ∧ Below w.heap.size w w') := Lib.hid fun w => plain_ok es hes w
  have HPt : Hid (∀ w, Handle w → Calls Tryd.prog 6 #[errF et, .int .i64 (et.getD 0)] w fun en w' => en = .returned (.bool true) ∧ Below w.heap.size w w') := Lib.hid fun w => plain_ok et het w
  have HG := Lib.hid hg
  clear hs1 hs2 ht1 ht2 hes het hg
  generalize errF es = xs at *
  generalize errF et = xt at *
  generalize es.getD 0 = ns at *
  generalize et.getD 0 = nt at *
  go_enter Tryd.func3, Tryd.ntmps3
  go_wp2_with fail
  refine (HS2.out _).mono ?_
  rintro e w1 ⟨v1, rfl, m1, b1⟩
  go_wp2_with fail
  refine (HT2.out _).mono ?_
  rintro e w2 ⟨v2, rfl, m2, b2⟩
  go_wp2_with fail
  refine (HS1.out _).mono ?_
  rintro e w3 ⟨v3, rfl, m3, b3⟩
  go_wp2_with fail
  refine (HT1.out _).mono ?_
  rintro e w4 ⟨v4, rfl, m4, b4⟩
  go_wp2_with fail
  refine (HS1.out _).mono ?_
  rintro e w5 ⟨v5, rfl, m5, b5⟩
  have B5 : Hid (Below w.heap.size w w5) := Lib.hid ((((b1.trans (b2.mono b1.size)).trans (b3.mono (Nat.le_trans b1.size b2.size))).trans (b4.mono (Nat.le_trans b1.size (Nat.le_trans b2.size b3.size)))).trans (b5.mono (Nat.le_trans b1.size (Nat.le_trans b2.size (Nat.le_trans b3.size b4.size)))))
  have M1 := Lib.hid ((((m1.later b2).later b3).later b4).later b5)
  have M2 := Lib.hid (((m2.later b3).later b4).later b5)
  have M3 := Lib.hid ((m3.later b4).later b5)
  have M4 := Lib.hid (m4.later b5)
  have M5 := Lib.hid m5
  have Z := Lib.hid (And.intro b1.size (And.intro b2.size (And.intro b3.size (And.intro b4.size b5.size))))
  clear m1 m2 m3 m4 m5 b1 b2 b3 b4 b5
  have HG5 := Lib.hid (HG.out.below B5.out)
  have T5 := Lib.hid (Below.refl w5.heap.size w5)
  go_wp2_with fail
  refine (HPs.out _ HG5.out).mono ?_
  rintro e w6 ⟨rfl, b6⟩
  have HG6 := Lib.hid (HG5.out.below b6)
  have N1 := Lib.hid (M1.out.later b6); have N2 := Lib.hid (M2.out.later b6); have N3 := Lib.hid (M3.out.later b6); have N4 := Lib.hid (M4.out.later b6); have N5 := Lib.hid (M5.out.later b6)
  have T6 := Lib.hid (T5.out.trans (b6.mono T5.out.size))
  have B6 : Hid (Below w.heap.size w w6) := Lib.hid (B5.out.trans (b6.mono B5.out.size))
  clear M1 M2 M3 M4 M5 b6
  go_wp2_with fail
  refine (HPt.out _ HG6.out).mono ?_
  rintro e w7 ⟨rfl, b7⟩
  have HG7 := Lib.hid (HG6.out.below b7)
  have M1 := Lib.hid (N1.out.later b7); have M2 := Lib.hid (N2.out.later b7); have M3 := Lib.hid (N3.out.later b7); have M4 := Lib.hid (N4.out.later b7); have M5 := Lib.hid (N5.out.later b7)
  have T7 := Lib.hid (T6.out.trans (b7.mono T6.out.size))
  have B7 : Hid (Below w.heap.size w w7) := Lib.hid (B6.out.trans (b7.mono B6.out.size))
  clear N1 N2 N3 N4 N5 b7
  go_wp2_with fail
  refine (HPs.out _ HG7.out).mono ?_
  rintro e w8 ⟨rfl, b8⟩
  have N1 := Lib.hid (M1.out.later b8); have N2 := Lib.hid (M2.out.later b8); have N3 := Lib.hid (M3.out.later b8); have N4 := Lib.hid (M4.out.later b8); have N5 := Lib.hid (M5.out.later b8)
  have T8 := Lib.hid (T7.out.trans (b8.mono T7.out.size))
  have B8 : Hid (Below w.heap.size w w8) := Lib.hid (B7.out.trans (b8.mono B7.out.size))
  clear M1 M2 M3 M4 M5 b8
  go_wp2_with fail
  refine (N3.out.same N1.out hls).mono ?_
  rintro e w9 ⟨rfl, b9⟩
  have M1 := Lib.hid (N1.out.later b9); have M2 := Lib.hid (N2.out.later b9); have M3 := Lib.hid (N3.out.later b9); have M4 := Lib.hid (N4.out.later b9); have M5 := Lib.hid (N5.out.later b9)
  have T9 := Lib.hid (T8.out.trans (b9.mono T8.out.size))
  have B9 : Hid (Below w.heap.size w w9) := Lib.hid (B8.out.trans (b9.mono B8.out.size))
  clear N1 N2 N3 N4 N5 b9
  go_wp2_with fail
  refine (M4.out.same M2.out hlt).mono ?_
  rintro e w10 ⟨rfl, b10⟩
  have N1 := Lib.hid (M1.out.later b10); have N3 := Lib.hid (M3.out.later b10); have N4 := Lib.hid (M4.out.later b10); have N5 := Lib.hid (M5.out.later b10)
  have T10 := Lib.hid (T9.out.trans (b10.mono T9.out.size))
  have B10 : Hid (Below w.heap.size w w10) := Lib.hid (B9.out.trans (b10.mono B9.out.size))
  clear M1 M2 M3 M4 M5 b10
  go_wp2_with fail
  refine (N5.out.same N1.out hls).mono ?_
  rintro e w11 ⟨rfl, b11⟩
  have M3 := Lib.hid (N3.out.later b11); have M4 := Lib.hid (N4.out.later b11); have M5 := Lib.hid (N5.out.later b11)
  have T11 := Lib.hid (T10.out.trans (b11.mono T10.out.size))
  have B11 : Hid (Below w.heap.size w w11) := Lib.hid (B10.out.trans (b11.mono B10.out.size))
  clear N1 N3 N4 N5 b11
  obtain ⟨A3, c3, x3, rfl, _⟩ := M3.out.row
  obtain ⟨A4, c4, x4, rfl, _⟩ := M4.out.row
  obtain ⟨A5, c5, x5, rfl, _⟩ := M5.out.row
  have hz5 := Lib.hid T11.out.size
  have HA : Hid (Calls Tryd.prog 8 #[.slice (some ⟨w11.heap.size, 0, none⟩) 3 3] (w11.alloc (.cells #[.slice A3 ls.length c3, .slice A4 lt.length c4, .slice A5 ls.length c5] 22)) fun e w' => e = .returned (.bool true) ∧ Below w.heap.size w11 w') :=
    Lib.hid (three_apart w w11 _ _ _ ls lt ls _ _ _ _ (by have := Z.out; have z5 := hz5.out; omega) M3.out M4.out M5.out hls hlt hls)
  go_wp2_with fail
  refine HA.out.mono ?_
  rintro e w12 ⟨rfl, b12⟩
  go_wp2
  go_ret
  exact ⟨rfl, B11.out.trans b12⟩
end Go.Proofs.YtbaabgoibpannaaDoor.PDeskWords
