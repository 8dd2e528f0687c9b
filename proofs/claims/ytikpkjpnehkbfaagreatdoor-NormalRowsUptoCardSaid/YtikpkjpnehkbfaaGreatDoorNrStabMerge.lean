/- slices.symMergeCmpFunc at points: the whole. -/
import Derived.Test.YtikpkjpnehkbfaaGreatDoorNrE
import Derived.Deep.DeepCutAuto
import Derived.Deep.Cut
set_option linter.unusedSimpArgs false
set_option linter.unusedVariables false
namespace Go.Proofs.YtikpkjpnehkbfaaGreatDoor.Sb
open Go Go.RowKit Go.Shelf
theorem right_pre {key : Int → Int} {a mid en b : Nat} {r r1 : List Int} (hm : Mv key a mid r r1) (hmid : mid ≤ en) (h1 : Srt key mid en r) (h2 : Srt key en b r) : Srt key mid en r1 ∧ Srt key en b r1 :=
  ⟨h1.same (fun t ht _ => hm.out t (.inr ht)), h2.same (fun t ht _ => hm.out t (.inr (by omega)))⟩
theorem found_row {key : Int → Int} {g cap n : Nat} {cv : Value} {pre post : List Value} {W0 : World} {a m b lo mid en : Nat} {l : List Int} (hF : Found key a m b lo l) (h1 : Srt key a m l) (h2 : Srt key m b l) (hl : l.length = n) (hn : n ≤ 16777216) (ham : a < m) (hmb : m < b) (hb : b ≤ n) (hmid : mid = (a + b) / 2) (hen : en = mid + m - lo) :
    ∃ r : List Int, Hid (Mv key a b l r ∧ Srt key a lo r ∧ Srt key lo mid r ∧ Srt key mid en r ∧ Srt key en b r ∧ ∀ i j x y, a ≤ i → i < mid → mid ≤ j → j < b → r[i]? = some x → r[j]? = some y → key x ≤ key y) ∧
      Hid (¬ (lo < m ∧ m < en) → r = l) ∧
      Hid ((lo < m ∧ m < en) → ∀ W, SI g pre post W0 W l → Calls Tryz.prog 185 #[.slice (some ⟨g, pre.length, none⟩) n cap, .int .i64 lo, .int .i64 m, .int .i64 en, cv] W fun e w' => e = .returned (.tuple #[]) ∧ SI g pre post W0 w' r) ∧
      Hid (r.length = n) := by
  have h3 := hF.sm
  have h4 := hF.em
  have h5 := hF.eb
  rw [← hmid, ← hen] at h4 h5
  refine ⟨turn lo m en l, ?_, fun h => turn_same h3 h4 (by omega) (by omega), fun h W hW => rotate_calls (cap := cap) (n := n) (cv := cv) lo m en l W hW hl hn h.1 h.2 (by omega), by show (turn lo m en l).length = n; rw [turn_length h3 h4 (by omega), hl]⟩
  have := hF.turned (by omega) (by omega) (by omega) h1 h2
  rw [← hmid, ← hen] at this
  exact this
abbrev SymAt (key : Int → Int) (g cap n cf : Nat) (lb : Array Value) (pre post : List Value) (W0 : World) (N : Nat) : Prop :=
  ∀ (a m b : Nat) (l : List Int) (w : World), b - a < N → SI g pre post W0 w l → l.length = n → a < m → m < b → b ≤ n → Srt key a m l → Srt key m b l →
    Calls Tryz.prog 158 #[.slice (some ⟨g, pre.length, none⟩) n cap, .int .i64 a, .int .i64 m, .int .i64 b, .func (.func cf) #[] lb] w fun e w' => SymOut key g pre post W0 a b l e w'
set_option maxHeartbeats 16000000 in
set_option maxRecDepth 100000 in
theorem sym_main {key : Int → Int} {g cap n cf : Nat} {lb : Array Value} {pre post : List Value} {W0 : World} (eg : Enters cf) (hC : Cmp g W0 cf lb key) (a m b : Nat) (l : List Int) (w : World)
    (hIH : SymAt key g cap n cf lb pre post W0 (b - a))
    (hI : SI g pre post W0 w l) (hl : l.length = n) (hn : n ≤ 16777216) (ham : a + 1 < m) (hmb : m + 1 < b) (hb : b ≤ n) (hS1 : Srt key a m l) (hS2 : Srt key m b l) :
    Calls Tryz.prog 158 #[.slice (some ⟨g, pre.length, none⟩) n cap, .int .i64 a, .int .i64 m, .int .i64 b, .func (.func cf) #[] lb] w fun e w' => SymOut key g pre post W0 a b l e w' := by
  have HC := Lib.hid hC
  have HI := Lib.hid hI
  have HS1 := Lib.hid hS1
  have HS2 := Lib.hid hS2
  have HIH := Lib.hid hIH
  have HL := Lib.hid hl
  obtain ⟨mid, hmid⟩ : ∃ mid, mid = (a + b) / 2 := ⟨_, rfl⟩
  have z0 : ((a : Int) + (b : Int)) / 2 = (mid : Int) := by omega
  have f0 : IntKind.i64.wrap ((m : Int) - (a : Int)) = ((m - a : Nat) : Int) := (IntWalk.i64_in _ (by omega)).trans (by omega)
  have f1 : (((m - a : Nat) : Int) == 1) = false := beq_eq_false_iff_ne.2 (by omega)
  have f2 : IntKind.i64.wrap ((b : Int) - (m : Int)) = ((b - m : Nat) : Int) := (IntWalk.i64_in _ (by omega)).trans (by omega)
  have f3 : (((b - m : Nat) : Int) == 1) = false := beq_eq_false_iff_ne.2 (by omega)
  obtain ⟨d1, hd1⟩ : ∃ d1, d1 = m - a := ⟨_, rfl⟩
  obtain ⟨d2, hd2⟩ : ∃ d2, d2 = b - m := ⟨_, rfl⟩
  rw [← hd1] at f0 f1
  rw [← hd2] at f2 f3
  obtain ⟨nn, hnn⟩ : ∃ nn, nn = mid + m := ⟨_, rfl⟩
  have g0 : IntKind.i64.wrap ((mid : Int) + (m : Int)) = (nn : Int) := (IntWalk.i64_in _ (by omega)).trans (by omega)
  have g1 : IntKind.i64.wrap (nn : Int) = (nn : Int) := IntWalk.i64_in _ (by omega)
  obtain ⟨pp, hpp⟩ : ∃ pp, pp = (a + b) / 2 + m - 1 := ⟨_, rfl⟩
  have g2 : IntKind.i64.wrap ((nn : Int) - 1) = (pp : Int) := (IntWalk.i64_in _ (by omega)).trans (by omega)
  have g3 : IntKind.i64.wrap (pp : Int) = (pp : Int) := IntWalk.i64_in _ (by omega)
  have hsr := sea_range (a := a) (m := m) (b := b) (by omega) (by omega)
  rw [← hpp, ← hmid] at hsr
  obtain ⟨s0, hs0⟩ : ∃ s0, s0 = seaLo a m b := ⟨_, rfl⟩
  obtain ⟨r0, hr0⟩ : ∃ r0, r0 = seaHi a m b := ⟨_, rfl⟩
  rw [← hs0, ← hr0] at hsr
  have HSR := Lib.hid hsr
  have hrm : r0 ≤ mid := hsr.2.2.1
  have hrm2 : r0 ≤ m := hsr.2.2.2.1
  have hsr0 : s0 ≤ r0 := hsr.2.1
  have hmb2 : mid < b := by omega
  have hppn : pp < 33554432 := by omega
  have hnn2 : nn < 33554432 := by omega
  have hma : a < mid := by omega
  have HE := Lib.hid (And.intro hmid (And.intro hnn (And.intro hpp (And.intro hs0 hr0))))
  have HD : Hid (mid < m → s0 = nn - b ∧ b ≤ nn ∧ r0 = mid) := Lib.hid (fun h => by
    have h' : (a + b) / 2 < m := by omega
    unfold seaLo at hs0
    unfold seaHi at hr0
    rw [if_pos h'] at hs0 hr0
    omega)
  have HD' : Hid (¬ mid < m → s0 = a ∧ r0 = m) := Lib.hid (fun h => by
    have h' : ¬ (a + b) / 2 < m := by omega
    unfold seaLo at hs0
    unfold seaHi at hr0
    rw [if_neg h'] at hs0 hr0
    omega)
  clear hC hI hS1 hS2 hIH hd1 hd2 hnn hpp hsr hmid hs0 hr0 hl
  go_enter Tryz.func158, Tryz.ntmps158
  go_upto_if 140 with fail
  go_cut [20, 21] (fun v20 v21 wx => v20 = .int .i64 s0 ∧ v21 = .int .i64 r0 ∧ wx = w)
  case first =>
    by_cases hmm : mid < m
    · obtain ⟨q1, q2, q3⟩ := HD.out hmm
      have g4 : IntKind.i64.wrap ((nn : Int) - (b : Int)) = (s0 : Int) := (IntWalk.i64_in _ (by omega)).trans (by omega)
      have g5 : IntKind.i64.wrap (s0 : Int) = (s0 : Int) := IntWalk.i64_in _ (by omega)
      have Q := Lib.hid (And.intro q1 q3)
      clear q1 q2 q3
      have hmz : (mid : Int) < (m : Int) := by omega
      go_wp2
      go_meet
      exact ⟨rfl, by rw [Q.out.2], rfl⟩
    · obtain ⟨q1, q3⟩ := HD'.out hmm
      have Q := Lib.hid (And.intro q1 q3)
      clear q1 q3
      have hmz : ¬ (mid : Int) < (m : Int) := by omega
      go_wp2
      go_meet
      exact ⟨by rw [Q.out.1], by rw [Q.out.2], rfl⟩
  case rest =>
    obtain ⟨rfl, rfl, rfl⟩ := hcut
    go_wp2
    go_loopg [20, 21] (r0 - s0) (fun gk vi vj wr => ∃ (lo hi : Nat), vi = .int .i64 lo ∧ vj = .int .i64 hi ∧ s0 ≤ lo ∧ lo ≤ hi ∧ hi ≤ r0 ∧ hi - lo ≤ gk ∧ Hid (SI g pre post W0 wr l) ∧ Hid (Sea key pp s0 r0 lo hi l))
    case atStart => exact ⟨s0, r0, rfl, rfl, Nat.le_refl _, hsr0, Nat.le_refl _, Nat.le_refl _, HI, Lib.hid (Sea.start key l hsr0)⟩
    case round =>
      obtain ⟨lo, hi, rfl, rfl, hlo, hlh, hhi, hg1, HS, HSea⟩ := hrel
      by_cases hlt : lo < hi
      · as_aux_lemma =>
          obtain ⟨c, hc⟩ : ∃ c, c = (lo + hi) / 2 := ⟨_, rfl⟩
          have hzz : ((lo : Int) + (hi : Int)) / 2 = (c : Int) := by omega
          have hlc : lo ≤ c := by omega
          have hch : c < hi := by omega
          obtain ⟨r1, r2, r3, r4⟩ := HSR.out.2.2.2.2 c (by omega) (by omega)
          obtain ⟨q, hq⟩ : ∃ q, q = pp - c := ⟨_, rfl⟩
          have g6 : IntKind.i64.wrap ((pp : Int) - (c : Int)) = (q : Int) := (IntWalk.i64_in _ (by omega)).trans (by omega)
          have g7 : IntKind.i64.wrap (q : Int) = (q : Int) := IntWalk.i64_in _ (by omega)
          have hll := HL.out
          obtain ⟨x, hx⟩ := get_of (l := l) (i := c) (by omega)
          obtain ⟨y, hy⟩ := get_of (l := l) (i := q) (by omega)
          have cx := HS.out.row.cell hx
          have cy := HS.out.row.cell hy
          have hltz : (lo : Int) < (hi : Int) := by omega
          have p1 : (c : Int) < (n : Int) := by omega
          have p2 : (q : Int) < (n : Int) := by omega
          have HX := Lib.hid hx
          have HY : Hid (l[pp - c]? = some y) := Lib.hid (by rw [← hq]; exact hy)
          have HCC := Lib.hid (fun (W : World) (hW : Kp g W0 W) => HC.out y x W hW)
          have KP := Lib.hid HS.out.kp
          obtain ⟨z, hz⟩ : ∃ z, key y - key x = z := ⟨_, rfl⟩
          rw [hz] at HCC
          have HZ := Lib.hid hz
          obtain ⟨tb, htb⟩ : ∃ tb, decide (z < 0) = tb := ⟨_, rfl⟩
          have HTB := Lib.hid htb
          clear hx hy hz hc hq hll r1 r2 r3 r4
          cases tb
          all_goals
            go_wp2
            go_region_held3 (fun w' => w'.cell? ⟨g, pre.length + q, none⟩ = some (.int .i32 y) ∧ w'.cell? ⟨g, pre.length + c, none⟩ = some (.int .i32 x)) (go_keep) ((go_at_fn cf; refine (HCC.out _ (by first | exact KP.out | exact KP.out.drew | exact KP.out.drewN _)).mono ?_; rintro e w3 ⟨rfl, hb3⟩; have cy := later_cell hb3 cy; have cx := later_cell hb3 cx))
            have HS3 := Lib.hid (HS.out.drew.later hb3)
            clear hb3
            go_wp2
          · go_roundg (hi - (c + 1))
            case rel => exact ⟨c + 1, hi, by go_num, rfl, by omega, by omega, by omega, Nat.le_refl _, HS3, Lib.hid (HSea.out.up hlc hch HX.out HY.out (by have := HZ.out; have := of_decide_eq_false HTB.out; omega))⟩
            case measure => omega
          · go_roundg (c - lo)
            case rel => exact ⟨lo, c, rfl, rfl, by omega, by omega, by omega, Nat.le_refl _, HS3, Lib.hid (HSea.out.down hlc hch HX.out HY.out (by have := HZ.out; have := of_decide_eq_true HTB.out; omega))⟩
            case measure => omega
      · as_aux_lemma =>
          obtain rfl : lo = hi := by omega
          have HF : Hid (Found key a m b lo l) := Lib.hid (by
            obtain ⟨e1, e2, e3, e4, e5⟩ := HE.out
            refine Sea.found (by omega) (by omega) ?_
            rw [← e3, ← e4, ← e5]
            exact HSea.out)
          have hlm : lo ≤ m := by omega
          have hlmid : lo ≤ mid := by omega
          have hal : a ≤ lo := by have := HSR.out.1; omega
          obtain ⟨en, hen⟩ : ∃ en, en = mid + m - lo := ⟨_, rfl⟩
          have g6 : IntKind.i64.wrap ((nn : Int) - (lo : Int)) = (en : Int) := (IntWalk.i64_in _ (by have := HE.out.2.1; omega)).trans (by have := HE.out.2.1; omega)
          have g7 : IntKind.i64.wrap (en : Int) = (en : Int) := IntWalk.i64_in _ (by omega)
          have hme : m ≤ en := by omega
          have hmide : mid ≤ en := by omega
          have heb : en ≤ b := by have := HF.out.eb; have := HE.out.1; omega
          obtain ⟨r, HTU, HSAME, HROT, HRL⟩ := found_row (cap := cap) (cv := .func (.func cf) #[] lb) (g := g) (pre := pre) (post := post) (W0 := W0) HF.out HS1.out HS2.out HL.out hn (by omega) (by omega) hb HE.out.1 hen
          clear hen HF HSea hlt
          obtain ⟨t1, ht1⟩ : ∃ t1 : Bool, t1 = decide (lo < m ∧ m < en) := ⟨_, rfl⟩
          have Ht1 := Lib.hid ht1
          clear ht1
          go_upto_region 39 with fail
          go_cut [185] (fun v wx => v = .bool t1 ∧ wx = wr)
          case first => as_aux_lemma =>
            by_cases c1 : lo < m
            · have c1z : (lo : Int) < (m : Int) := by omega
              by_cases c2 : m < en
              · have c2z : (m : Int) < (en : Int) := by omega
                have e := Lib.hid (Ht1.out.trans (decide_eq_true (And.intro c1 c2)))
                go_wp2
                go_meet
                exact ⟨congrArg Value.bool e.out.symm, rfl⟩
              · have c2z : ¬ (m : Int) < (en : Int) := by omega
                have e := Lib.hid (Ht1.out.trans (decide_eq_false (fun h => c2 h.2)))
                go_wp2
                go_meet
                exact ⟨congrArg Value.bool e.out.symm, rfl⟩
            · have c1z : ¬ (lo : Int) < (m : Int) := by omega
              have e := Lib.hid (Ht1.out.trans (decide_eq_false (fun h => c1 h.1)))
              go_wp2
              go_meet
              exact ⟨congrArg Value.bool e.out.symm, rfl⟩
          case rest => as_aux_lemma =>
            obtain ⟨rfl, rfl⟩ := hcut
            go_upto_if 185 with fail
            go_cut [] (fun wx => SI g pre post W0 wx r)
            case first => as_aux_lemma =>
              cases t1
              · have hr := Lib.hid (HSAME.out (of_decide_eq_false Ht1.out.symm))
                go_wp2
                go_meet
                rw [hr.out]; exact HS.out
              · have C := Lib.hid (of_decide_eq_true Ht1.out.symm)
                go_wp2_with (go_at_call 185; refine (HROT.out C.out _ HS.out).mono ?_; rintro e w2 ⟨rfl, hs⟩; have HSr := Lib.hid hs; clear hs)
                go_meet
                exact HSr.out
            case rest => as_aux_lemma =>
              have HSr := Lib.hid hcut
              clear hcut HROT HSAME HS
              obtain ⟨t2, ht2⟩ : ∃ t2 : Bool, t2 = decide (a < lo ∧ lo < mid) := ⟨_, rfl⟩
              have Ht2 := Lib.hid ht2
              clear ht2
              go_upto_region 41 with fail
              go_cut [199] (fun v wx => v = .bool t2 ∧ wx = wc)
              case first => as_aux_lemma =>
                by_cases c1 : a < lo
                · have c1z : (a : Int) < (lo : Int) := by omega
                  by_cases c2 : lo < mid
                  · have c2z : (lo : Int) < (mid : Int) := by omega
                    have e := Lib.hid (Ht2.out.trans (decide_eq_true (And.intro c1 c2)))
                    go_wp2
                    go_meet
                    exact ⟨congrArg Value.bool e.out.symm, rfl⟩
                  · have c2z : ¬ (lo : Int) < (mid : Int) := by omega
                    have e := Lib.hid (Ht2.out.trans (decide_eq_false (fun h => c2 h.2)))
                    go_wp2
                    go_meet
                    exact ⟨congrArg Value.bool e.out.symm, rfl⟩
                · have c1z : ¬ (a : Int) < (lo : Int) := by omega
                  have e := Lib.hid (Ht2.out.trans (decide_eq_false (fun h => c1 h.1)))
                  go_wp2
                  go_meet
                  exact ⟨congrArg Value.bool e.out.symm, rfl⟩
              case rest => as_aux_lemma =>
                obtain ⟨rfl, rfl⟩ := hcut
                go_upto_if 199 with fail
                go_cut [] (fun wx => ∃ r1, SI g pre post W0 wx r1 ∧ Mv key a mid r r1 ∧ Srt key a mid r1)
                case first => as_aux_lemma =>
                  cases t2
                  · have hq := Lib.hid (of_decide_eq_false Ht2.out.symm)
                    go_wp2
                    go_meet
                    refine ⟨r, HSr.out, Mv.refl _ _ _ _, ?_⟩
                    by_cases e : lo = a
                    · have := HTU.out.2.2.1; rwa [e] at this
                    · have e : lo = mid := by have := hq.out; omega
                      have := HTU.out.2.1; rwa [e] at this
                  · have C := Lib.hid (of_decide_eq_true Ht2.out.symm)
                    go_wp2_with (go_at_call 158; refine (HIH.out a lo mid r _ (by omega) HSr.out HRL.out C.out.1 C.out.2 (by omega) HTU.out.2.1 HTU.out.2.2.1).mono ?_; rintro e w3 ⟨rfl, r1, hs, hm, ho⟩; have HX := Lib.hid (And.intro hs (And.intro hm ho)); clear hs hm ho)
                    go_meet
                    exact ⟨r1, HX.out⟩
                case rest => as_aux_lemma =>
                  obtain ⟨r1, hs1, hm1, ho1⟩ := hcut
                  have HS1r := Lib.hid hs1
                  have HRP := Lib.hid (right_pre hm1 hmide HTU.out.2.2.2.1 HTU.out.2.2.2.2.1)
                  have HRL1 : Hid (r1.length = n) := Lib.hid (by rw [hm1.len, HRL.out])
                  have HFIN := Lib.hid (fun (r2 : List Int) (h2 : Mv key mid b r1 r2) (s2 : Srt key mid b r2) => merged (l := r) (a := a) (mid := mid) (b := b) (by omega) (by omega) HTU.out.2.2.2.2.2 hm1 ho1 h2 s2)
                  clear hs1 hm1 ho1 HSr
                  obtain ⟨t3, ht3⟩ : ∃ t3 : Bool, t3 = decide (mid < en ∧ en < b) := ⟨_, rfl⟩
                  have Ht3 := Lib.hid ht3
                  clear ht3
                  go_upto_region 43 with fail
                  go_cut [213] (fun v wx => v = .bool t3 ∧ wx = wc)
                  case first => as_aux_lemma =>
                    by_cases c1 : mid < en
                    · have c1z : (mid : Int) < (en : Int) := by omega
                      by_cases c2 : en < b
                      · have c2z : (en : Int) < (b : Int) := by omega
                        have e := Lib.hid (Ht3.out.trans (decide_eq_true (And.intro c1 c2)))
                        go_wp2
                        go_meet
                        exact ⟨congrArg Value.bool e.out.symm, rfl⟩
                      · have c2z : ¬ (en : Int) < (b : Int) := by omega
                        have e := Lib.hid (Ht3.out.trans (decide_eq_false (fun h => c2 h.2)))
                        go_wp2
                        go_meet
                        exact ⟨congrArg Value.bool e.out.symm, rfl⟩
                    · have c1z : ¬ (mid : Int) < (en : Int) := by omega
                      have e := Lib.hid (Ht3.out.trans (decide_eq_false (fun h => c1 h.1)))
                      go_wp2
                      go_meet
                      exact ⟨congrArg Value.bool e.out.symm, rfl⟩
                  case rest => as_aux_lemma =>
                    obtain ⟨rfl, rfl⟩ := hcut
                    cases t3
                    · have hq := Lib.hid (of_decide_eq_false Ht3.out.symm)
                      go_wp2
                      go_end0
                      have hs : Srt key mid b r1 := by
                        by_cases e : en = mid
                        · have := HRP.out.2; rwa [e] at this
                        · have e : en = b := by have := hq.out; omega
                          have := HRP.out.1; rwa [e] at this
                      have := HFIN.out r1 (Mv.refl _ _ _ _) hs
                      exact ⟨rfl, r1, HS1r.out, HTU.out.1.trans this.1, this.2⟩
                    · have C := Lib.hid (of_decide_eq_true Ht3.out.symm)
                      go_wp2_with (go_at_call 158; refine (HIH.out mid en b r1 _ (by omega) HS1r.out HRL1.out C.out.1 C.out.2 (by omega) HRP.out.1 HRP.out.2).mono ?_; rintro e w4 ⟨rfl, r2, hs, hm, ho⟩; have HX := Lib.hid (And.intro hs (And.intro hm ho)); clear hs hm ho)
                      go_end0
                      have := HFIN.out r2 HX.out.2.1 HX.out.2.2
                      exact ⟨rfl, r2, HX.out.1, HTU.out.1.trans this.1, this.2⟩
theorem sym_calls {key : Int → Int} {g cap n cf : Nat} {lb : Array Value} {pre post : List Value} {W0 : World} (eg : Enters cf) (hC : Cmp g W0 cf lb key) (hn : n ≤ 16777216) : ∀ N, SymAt key g cap n cf lb pre post W0 N
  | 0 => fun a m b l w h => absurd h (by omega)
  | N + 1 => fun a m b l w h hI hl ham hmb hb h1 h2 => by
    by_cases c1 : m = a + 1
    · subst c1
      exact sym_first eg hC a (a + 1) b l w hI hl hn rfl hmb hb h2
    · by_cases c2 : b = m + 1
      · exact sym_last eg hC a m b l w hI hl hn (by omega) c2 hb h1
      · exact sym_main eg hC a m b l w (fun a' m' b' l' w' h' => sym_calls eg hC hn N a' m' b' l' w' (by omega)) hI hl hn (by omega) (by omega) hb h1 h2
end Go.Proofs.YtikpkjpnehkbfaaGreatDoor.Sb
