/- A line of class: the walks. -/
import Derived.Test.YtikpkjpnehkbfaaGreatDoorNrBDecomp
import Derived.Test.YtikpkjpnehkbfaaGreatDoorNrShelf
import Derived.Test.YtikpkjpnehkbfaaGreatDoorNrA
set_option linter.unusedSimpArgs false
namespace Go.Proofs.YtikpkjpnehkbfaaGreatDoor.Pr
open Go Go.RowKit Go.Shelf Go.Proofs.YtikpkjpnehkbfaaGreatDoor.Sp Go.Proofs.YtikpkjpnehkbfaaGreatDoor.Mapl Go.Proofs.YtikpkjpnehkbfaaGreatDoor.Rowl
def ThreeAt (v : Value) (w : World) (lo hi : Int) (ev : Value) : Prop := Calls Tryz.prog 107 #[v] w fun e w' => e = .returned (.tuple #[.agg #[.int .i32 lo, .int .i32 hi], ev]) ∧ Below w.heap.size w w'
set_option maxHeartbeats 4000000 in
theorem class_err (x : Nat) (v : Value) (k : Int) (w : World) (hs : Hid (ThreeAt v w 0 0 (errV k))) :
    Calls Tryz.prog 64 #[.pointer (some ⟨x, 0, none⟩), v] w fun e w' => e = .returned (errV k) ∧ Below w.heap.size w w' := by
  have he : errV k = .iface 87 (.int .i64 k) := rfl
  unfold ThreeAt at hs
  rw [he] at hs ⊢
  clear he
  go_enter Tryz.func64, Tryz.ntmps64
  go_wp2_with (go_at_call 107; refine hs.out.mono ?_; rintro e w1 ⟨rfl, hb⟩)
  go_ret
  exact ⟨rfl, hb.alloc hb.size _⟩
theorem word_at {w w1 : World} {b off : Nat} {s : ByteArray} (hc : w.cell? ⟨b, off + 2, none⟩ = some (.string s)) (hb : Below w.heap.size w w1) (hlt : b < w.heap.size) (o : Obj) : (w1.alloc o).cell? ⟨b, off + 2, none⟩ = some (.string s) :=
  Lib.cell?_alloc_some o ((hb.cell (p := ⟨b, off + 2, none⟩) hlt).trans hc)
set_option maxHeartbeats 4000000 in
theorem class_num (x b off c : Nat) (s T : ByteArray) (lo hi : Int) (w : World) (hlt : b < w.heap.size) (hc : w.cell? ⟨b, off + 2, none⟩ = some (.string s)) (hT : T.toList.isEmpty = false) (ht : Hid (TrimAt s T)) (hs : Hid (ThreeAt (.slice (some ⟨b, off, none⟩) 3 c) w lo hi .nilIface)) :
    Calls Tryz.prog 64 #[.pointer (some ⟨x, 0, none⟩), .slice (some ⟨b, off, none⟩) 3 c] w fun e w' => e = .returned (errV 11) ∧ Below w.heap.size w w' := by
  unfold ThreeAt at hs
  go_enter Tryz.func64, Tryz.ntmps64
  go_wp2_with (first | (go_at_call 107; refine hs.out.mono ?_; rintro e w1 ⟨rfl, hb⟩; have hcw := word_at hc hb hlt (.cells #[.int .i32 lo, .int .i32 hi] 158); have hba := hb.alloc hb.size (.cells #[.int .i32 lo, .int .i32 hi] 158)) | (go_at_call 108; refine (ht.out _).mono ?_; rintro e w2 ⟨rfl, hb2⟩))
  go_ret
  exact ⟨rfl, hba.trans (hb2.mono hba.size)⟩
set_option maxHeartbeats 4000000 in
theorem class_nought (x b off c : Nat) (s : ByteArray) (lo hi : Int) (w : World) (hlt : b < w.heap.size) (hc : w.cell? ⟨b, off + 2, none⟩ = some (.string s)) (h1 : 1 < s.size) (h48 : s[0].toNat = 48) (ht : Hid (TrimAt s ⟨#[]⟩)) (hs : Hid (ThreeAt (.slice (some ⟨b, off, none⟩) 3 c) w lo hi .nilIface)) :
    Calls Tryz.prog 64 #[.pointer (some ⟨x, 0, none⟩), .slice (some ⟨b, off, none⟩) 3 c] w fun e w' => e = .returned (errV 11) ∧ Below w.heap.size w w' := by
  unfold ThreeAt at hs
  have h0 : 0 < s.size := by omega
  have h48' : (s[0].toNat : Int) = 48 := by omega
  clear h48
  go_enter Tryz.func64, Tryz.ntmps64
  go_wp2_with (first | (go_at_call 107; refine hs.out.mono ?_; rintro e w1 ⟨rfl, hb⟩; have hcw := word_at hc hb hlt (.cells #[.int .i32 lo, .int .i32 hi] 158); have hba := hb.alloc hb.size (.cells #[.int .i32 lo, .int .i32 hi] 158)) | (go_at_call 108; refine (ht.out _).mono ?_; rintro e w2 ⟨rfl, hb2⟩; have hcw2 := (hb2.cell (p := ⟨b, off + 2, none⟩) (Nat.lt_of_lt_of_le hlt hba.size)).trans hcw))
  go_ret
  exact ⟨rfl, hba.trans (hb2.mono hba.size)⟩
set_option maxHeartbeats 4000000 in
theorem class_range (x b off c : Nat) (s : ByteArray) (lo hi : Int) (w : World) (ev : Value) (hlt : b < w.heap.size) (hc : w.cell? ⟨b, off + 2, none⟩ = some (.string s)) (hg : 5 < w.heap.size) (hv : w.cell? ⟨5, 0, none⟩ = some ev) (h0 : 0 < s.size) (h1 : s.size ≤ 1 ∨ (1 < s.size ∧ ¬ (s[0].toNat : Int) = 48)) (ht : Hid (TrimAt s ⟨#[]⟩)) (ha : Hid (AtoiBad s ev)) (hs : Hid (ThreeAt (.slice (some ⟨b, off, none⟩) 3 c) w lo hi .nilIface)) :
    Calls Tryz.prog 64 #[.pointer (some ⟨x, 0, none⟩), .slice (some ⟨b, off, none⟩) 3 c] w fun e w' => e = .returned (errV 1) ∧ Below w.heap.size w w' := by
  unfold ThreeAt at hs
  rcases h1 with h1 | ⟨h1, h2⟩
  all_goals
    go_enter Tryz.func64, Tryz.ntmps64
    go_wp2_with (first | (go_at_call 107; refine hs.out.mono ?_; rintro e w1 ⟨rfl, hb⟩; have hcw := word_at hc hb hlt (.cells #[.int .i32 lo, .int .i32 hi] 158); have hba := hb.alloc hb.size (.cells #[.int .i32 lo, .int .i32 hi] 158)) | (go_at_call 108; refine (ht.out _).mono ?_; rintro e w2 ⟨rfl, hb2⟩; have hcw2 := (hb2.cell (p := ⟨b, off + 2, none⟩) (Nat.lt_of_lt_of_le hlt hba.size)).trans hcw; have hbb := hba.trans (hb2.mono hba.size); have hv2 := (hbb.cell (p := ⟨5, 0, none⟩) hg).trans hv) | (go_at_call 109; refine (ha.out _ hv2).mono ?_; rintro e w3 ⟨⟨vv, N, rfl⟩, hb3⟩))
    go_ret
    exact ⟨rfl, hbb.trans (hb3.mono hbb.size)⟩
set_option maxHeartbeats 4000000 in
theorem class_big (x b off c : Nat) (s : ByteArray) (lo hi n : Int) (w : World) (hlt : b < w.heap.size) (hc : w.cell? ⟨b, off + 2, none⟩ = some (.string s)) (h0 : 0 < s.size) (h1 : s.size ≤ 1 ∨ (1 < s.size ∧ ¬ (s[0].toNat : Int) = 48)) (hn : 254 < n) (ht : Hid (TrimAt s ⟨#[]⟩)) (ha : Hid (AtoiOk s n)) (hs : Hid (ThreeAt (.slice (some ⟨b, off, none⟩) 3 c) w lo hi .nilIface)) :
    Calls Tryz.prog 64 #[.pointer (some ⟨x, 0, none⟩), .slice (some ⟨b, off, none⟩) 3 c] w fun e w' => e = .returned (errV 1) ∧ Below w.heap.size w w' := by
  unfold ThreeAt at hs
  rcases h1 with h1 | ⟨h1, h2⟩
  all_goals
    go_enter Tryz.func64, Tryz.ntmps64
    go_wp2_with (first | (go_at_call 107; refine hs.out.mono ?_; rintro e w1 ⟨rfl, hb⟩; have hcw := word_at hc hb hlt (.cells #[.int .i32 lo, .int .i32 hi] 158); have hba := hb.alloc hb.size (.cells #[.int .i32 lo, .int .i32 hi] 158)) | (go_at_call 108; refine (ht.out _).mono ?_; rintro e w2 ⟨rfl, hb2⟩; have hcw2 := (hb2.cell (p := ⟨b, off + 2, none⟩) (Nat.lt_of_lt_of_le hlt hba.size)).trans hcw; have hbb := hba.trans (hb2.mono hba.size)) | (go_at_call 109; refine (ha.out _).mono ?_; rintro e w3 ⟨rfl, hb3⟩))
    go_ret
    exact ⟨rfl, hbb.trans (hb3.mono hbb.size)⟩
theorem cv_slice {w : World} {n₀ e sz n : Nat} {v : Value} {xs : List Value} (h : w.ownsRow n₀ e sz v n xs) : ∃ A c, v = .slice A n c := YtikpkjpnehkbfaaGreatDoor.Rowl.own_slice h
theorem infoRow : (Tryz.prog.info? 162).map (fun i => (i.zero, i.size, i.bytes)) = some (some (.agg #[.int .i32 0, .int .i32 0, .int .i64 0]), 3, 16) := by kernel_rfl
theorem class_close {B : Blocks} {cv kv : Value} {n₀ : Nat} {w3 w4 : World} {st : St} {line : Int} (h3 : StB B cv kv n₀ w3 st line) (lo hi n : Int) (o : Obj) (hn : n₀ ≤ w3.heap.size) {gg cap : Nat} (hgrow : (w3.alloc o).drew.grownBy w4 cv.ownBlock)
    (hown4 : w4.ownsRow n₀ 162 3 (.slice (some ⟨gg, 0, none⟩) (st.d.classes.length + 1) cap) (st.d.classes.length + 1) (flat st.d.classes ++ [.int .i32 lo, .int .i32 hi, .int .i64 n])) (hat : cv.ownBlock = some gg ∨ gg = w3.heap.size + 1) :
    StB B (.slice (some ⟨gg, 0, none⟩) (st.d.classes.length + 1) cap) kv n₀ (w4.setCell ⟨B.p, 0, none⟩ (.slice (some ⟨gg, 0, none⟩) (st.d.classes.length + 1) cap)) { st with d := { st.d with classes := st.d.classes ++ [⟨lo, hi, n⟩] } } line ∧ Bel B n₀ w3 (w4.setCell ⟨B.p, 0, none⟩ (.slice (some ⟨gg, 0, none⟩) (st.d.classes.length + 1) cap)) := by
  have hx := h3.later (((Below.refl _ w3).alloc (Nat.le_refl _) o).drew)
  refine ⟨hx.class_put ⟨lo, hi, n⟩ hgrow hown4 ?_, ?_⟩
  · rcases hat with e | e
    · exact .inl e.symm
    · exact .inr ⟨gg, rfl, by show (w3.alloc o).heap.size ≤ gg; rw [e]; simp⟩
  · have hn4 : n₀ ≤ (w3.alloc o).drew.heap.size := by show n₀ ≤ (w3.alloc o).heap.size; simp; omega
    have hb1 : Bel B n₀ w3 (w3.alloc o).drew := Bel.of (((Below.refl _ w3).alloc (Nat.le_refl _) o).drew) hn
    have hb2 : Bel B n₀ (w3.alloc o).drew w4 := Bel.by hgrow hn4 (fun k hk => (own_block hx.hc hk).1) (fun k o' hk ho => by
      obtain ⟨_, cur, hh⟩ := own_block hx.hc hk
      rw [ho] at hh
      injection hh with hh
      exact .inr (.inr (.inr (.inr (.inr ⟨cur, hh⟩)))))
    refine (hb1.trans hb2).trans (Bel.by (setCell_grown w4 ⟨B.p, 0, none⟩ _) (Nat.le_trans hn4 hgrow.size) (fun k e => by injection e with e; subst e; exact h3.base.2.1) (fun k _ e _ => by injection e with e; exact .inl e.symm))
theorem kind_close {B : Blocks} {cv kv : Value} {n₀ : Nat} {w3 w4 : World} {st : St} {line : Int} (h3 : StB B cv kv n₀ w3 st line) (lo hi n : Int) (o : Obj) (hn : n₀ ≤ w3.heap.size) {gg cap : Nat} (hgrow : (w3.alloc o).drew.grownBy w4 kv.ownBlock)
    (hown4 : w4.ownsRow n₀ 162 3 (.slice (some ⟨gg, 0, none⟩) (st.d.kinds.length + 1) cap) (st.d.kinds.length + 1) (flat st.d.kinds ++ [.int .i32 lo, .int .i32 hi, .int .i64 n])) (hat : kv.ownBlock = some gg ∨ gg = w3.heap.size + 1) :
    StB B cv (.slice (some ⟨gg, 0, none⟩) (st.d.kinds.length + 1) cap) n₀ (w4.setCell ⟨B.p, 1, none⟩ (.slice (some ⟨gg, 0, none⟩) (st.d.kinds.length + 1) cap)) { st with d := { st.d with kinds := st.d.kinds ++ [⟨lo, hi, n⟩] } } line ∧ Bel B n₀ w3 (w4.setCell ⟨B.p, 1, none⟩ (.slice (some ⟨gg, 0, none⟩) (st.d.kinds.length + 1) cap)) := by
  have hx := h3.later (((Below.refl _ w3).alloc (Nat.le_refl _) o).drew)
  refine ⟨hx.kind_put ⟨lo, hi, n⟩ hgrow hown4 ?_, ?_⟩
  · rcases hat with e | e
    · exact .inl e.symm
    · exact .inr ⟨gg, rfl, by show (w3.alloc o).heap.size ≤ gg; rw [e]; simp⟩
  · have hn4 : n₀ ≤ (w3.alloc o).drew.heap.size := by show n₀ ≤ (w3.alloc o).heap.size; simp; omega
    have hb1 : Bel B n₀ w3 (w3.alloc o).drew := Bel.of (((Below.refl _ w3).alloc (Nat.le_refl _) o).drew) hn
    have hb2 : Bel B n₀ (w3.alloc o).drew w4 := Bel.by hgrow hn4 (fun k hk => (own_block hx.hk hk).1) (fun k o' hk ho => by
      obtain ⟨_, cur, hh⟩ := own_block hx.hk hk
      rw [ho] at hh
      injection hh with hh
      exact .inr (.inr (.inr (.inr (.inr ⟨cur, hh⟩)))))
    refine (hb1.trans hb2).trans (Bel.by (setCell_grown w4 ⟨B.p, 1, none⟩ _) (Nat.le_trans hn4 hgrow.size) (fun k e => by injection e with e; subst e; exact h3.base.2.1) (fun k _ e _ => by injection e with e; exact .inl e.symm))
set_option maxHeartbeats 8000000 in
set_option maxRecDepth 100000 in
theorem class_ok {B : Blocks} {cv kv : Value} {n₀ : Nat} {st : St} {line : Int} (b off c : Nat) (s : ByteArray) (lo hi n : Int) (w : World) (h : StB B cv kv n₀ w st line) (hn₀ : n₀ ≤ w.heap.size) (hmany : st.d.classes.length ≤ 1048576) (hlt : b < w.heap.size) (hc : w.cell? ⟨b, off + 2, none⟩ = some (.string s)) (h0 : 0 < s.size) (h1 : s.size ≤ 1 ∨ (1 < s.size ∧ ¬ (s[0].toNat : Int) = 48)) (hn0 : 0 ≤ n) (hn : n ≤ 254) (ht : Hid (TrimAt s ⟨#[]⟩)) (ha : Hid (AtoiOk s n)) (hs : Hid (ThreeAt (.slice (some ⟨b, off, none⟩) 3 c) w lo hi .nilIface)) :
    Calls Tryz.prog 64 #[.pointer (some ⟨B.x, 0, none⟩), .slice (some ⟨b, off, none⟩) 3 c] w fun e w' => MethOut B n₀ line (.ok { st with d := { st.d with classes := st.d.classes ++ [⟨lo, hi, n⟩] } }) e w' ∧ Bel B n₀ w w' := by
  unfold ThreeAt at hs
  obtain ⟨ii, hi0, hz0, hz1, hz2⟩ := info_parts infoRow
  have H := Lib.hid h
  clear h
  rcases h1 with h1 | ⟨h1, h2⟩
  all_goals
    go_enter Tryz.func64, Tryz.ntmps64
    go_wp2_with (first | (go_at_call 107; refine hs.out.mono ?_; rintro e w1 ⟨rfl, hb⟩; have hcw := word_at hc hb hlt (.cells #[.int .i32 lo, .int .i32 hi] 158); have hba := hb.alloc hb.size (.cells #[.int .i32 lo, .int .i32 hi] 158)) | (go_at_call 108; refine (ht.out _).mono ?_; rintro e w2 ⟨rfl, hb2⟩; have hcw2 := (hb2.cell (p := ⟨b, off + 2, none⟩) (Nat.lt_of_lt_of_le hlt hba.size)).trans hcw; have hbb := hba.trans (hb2.mono hba.size)) | (go_at_call 109; refine (ha.out _).mono ?_; rintro e w3 ⟨rfl, hb3⟩))
    have hbw := hbb.trans (hb3.mono hbb.size)
    have hK : Two w1 w3 (.int .i32 lo) (.int .i32 hi) := ((Two.start w1 (.int .i32 lo) (.int .i32 hi) 158).later hb2).later hb3
    have h3 := H.out.later hbw
    have t0 := hK.c0
    have t1 := hK.c1
    have c1 : w3.cell? ⟨B.x, 0, none⟩ = some (.pointer (some ⟨B.p, 0, none⟩)) := by rw [cell_of_row w3 _ 0 _ _ (0, 0) h3.hx]; rfl
    have c2 : w3.cell? ⟨B.p, 0, none⟩ = some cv := by rw [cell_of_row w3 _ 0 _ _ (0, 0) h3.hp]; rfl
    have hown := h3.hc
    have hbase := Nat.le_trans hn₀ hbw.size
    have hf : w3.frozen? ⟨B.p, 0, none⟩ = false := by simp [World.frozen?, h3.hp]
    have hpl := lt_of_block h3.hp
    have hne := (h3.rows h3.hc).2.1
    have hcv := cv_slice hown
    obtain ⟨cA, cC, rfl⟩ := hcv
    have H3 := Lib.hid h3
    have hX : (w3.alloc (.cells #[.int .i32 lo, .int .i32 hi, .int .i64 n] 162)).drew.heap[B.p]? = w3.heap[B.p]? := Below.heap_alloc w3 _ _ hpl
    have hX0 : (w3.alloc (.cells #[.int .i32 lo, .int .i32 hi, .int .i64 n] 162)).drew.heap[B.x]? = w3.heap[B.x]? := Below.heap_alloc w3 _ _ (lt_of_block h3.hx)
    have HX := Lib.hid hX
    have HX0 := Lib.hid hX0
    have hxl := lt_of_block h3.hx
    have hne0 := (h3.rows h3.hc).1
    have y1 := Lib.cell?_alloc_some (.cells #[.int .i32 lo, .int .i32 hi, .int .i64 n] 162) c1
    have y2 := Lib.cell?_alloc_some (.cells #[.int .i32 lo, .int .i32 hi, .int .i64 n] 162) c2
    clear h3 hK hX hX0
    go_region_law (refine step_append_lies _ (by rfl) _ _ _ (by rfl) n₀ 162 ii _ 3 16 Tryz.underlying91 hi0 hz0 hz1 hz2 rfl (by omega) _ _ _ (by rfl) ((hown.alloc _).drew) ⟨w3.heap.size, 0, none⟩ 1 1 [.int .i32 lo, .int .i32 hi, .int .i64 n] (by rfl) (by rfl) (World.news_of_block (cs := #[.int .i32 lo, .int .i32 hi, .int .i64 n]) (t := 162) (fr := (0, 0)) (heap_alloc_new w3 _)) (by simp [Value.oneCell']) (by omega) (by simp only [maxLen]; omega) (by omega) (by simp; omega) (w3.heap.size + 1) (by simp) ?_; intro gg cap w4 hown4 hgrow hat hgl; have q0 := (World.cell?_of_block (a := ⟨B.x, 0, none⟩) ((hgrow.block B.x (by simp; omega) (Ne.symm hne0)).trans HX0.out)).trans c1; have q1 := (World.cell?_of_block (a := ⟨B.p, 0, none⟩) ((hgrow.block B.p (by simp; omega) (Ne.symm hne)).trans HX.out)).trans c2; have q2 := (World.frozen?_of_block (a := ⟨B.p, 0, none⟩) ((hgrow.block B.p (by simp; omega) (Ne.symm hne)).trans HX.out)).trans hf)
    all_goals
      go_wp2
      go_ret
      have hE := class_close H3.out lo hi n _ hbase hgrow hown4 hat
      exact ⟨⟨rfl, _, _, hE.1⟩, (Bel.of hbw hn₀).trans hE.2⟩
end Go.Proofs.YtikpkjpnehkbfaaGreatDoor.Pr
namespace Go.Proofs.YtikpkjpnehkbfaaGreatDoor.Pr
open Go Go.RowKit Go.Shelf Go.Proofs.YtikpkjpnehkbfaaGreatDoor.Sp Go.Proofs.YtikpkjpnehkbfaaGreatDoor.Mapl Go.Proofs.YtikpkjpnehkbfaaGreatDoor.Rowl
theorem three_err {ws : List ByteArray} {v : Value} (hsz : ∀ s ∈ ws, s.size ≤ 1048576) {n₀ : Nat} {m : Int} {ev : Value} (w : World) (h : WordsAt w.heap.size w v ws) (hv : Vars n₀ w m ev) {k : Int} (he : threeOf (wl ws) = .error k) : ThreeAt v w 0 0 (errV k) :=
  (three_calls v ws hsz m w h hv.maxLen).mono fun e w' ⟨h1, h2⟩ => ⟨by rw [he] at h1; exact h1, h2⟩
theorem three_got {ws : List ByteArray} {v : Value} (hsz : ∀ s ∈ ws, s.size ≤ 1048576) {n₀ : Nat} {m : Int} {ev : Value} (w : World) (h : WordsAt w.heap.size w v ws) (hv : Vars n₀ w m ev) {lo hi : Int} (he : threeOf (wl ws) = .ok (lo, hi)) : ThreeAt v w lo hi .nilIface :=
  (three_calls v ws hsz m w h hv.maxLen).mono fun e w' ⟨h1, h2⟩ => ⟨by rw [he] at h1; exact h1, h2⟩
theorem threeOf_len {w : List Bytes} {p : Int × Int} (h : threeOf w = .ok p) : w.length = 3 := by
  unfold threeOf at h
  split at h
  · cases h
  · split at h
    · cases h
    · omega
theorem classLine_calls {B : Blocks} {cv kv : Value} {n₀ : Nat} {st : St} {line : Int} (v : Value) (ws : List ByteArray) (hsz : ∀ s ∈ ws, s.size ≤ 1048576) (hne : ∀ s ∈ ws, 0 < s.size) {m : Int} {ev : Value} (w : World) (h : StB B cv kv n₀ w st line) (hn₀ : n₀ ≤ w.heap.size) (hmany : st.d.classes.length ≤ 1048576) (hv : Vars n₀ w m ev) (hw : WordsAt w.heap.size w v ws) :
    Calls Tryz.prog 64 #[.pointer (some ⟨B.x, 0, none⟩), v] w fun e w' => MethOut B n₀ line (doClass st (wl ws)) e w' ∧ Bel B n₀ w w' := by
  unfold doClass
  cases ht : threeOf (wl ws) with
  | error k => exact (class_err B.x v k w (Lib.hid (three_err hsz w hw hv ht))).mono fun e w' ⟨h1, h2⟩ => ⟨h1, Bel.of h2 hn₀⟩
  | ok p =>
    obtain ⟨lo, hi⟩ := p
    simp only
    have h3 := threeOf_len ht
    rw [wl_length] at h3
    have hth := Lib.hid (three_got hsz w hw hv ht)
    obtain ⟨b, off, cap, rfl, hb, hc1, hc2, hcell⟩ := hw
    obtain ⟨s, hs⟩ : ∃ s, ws[2]? = some s := ⟨_, List.getElem?_eq_getElem (by omega)⟩
    have e : (wl ws).getD 2 [] = s.data.toList := by rw [List.getD_eq_getElem?_getD, wl_at hs]; rfl
    have hz := hsz s (List.mem_of_getElem? hs)
    have h0 := hne s (List.mem_of_getElem? hs)
    have hcs := hcell 2 s hs
    have hlen : s.data.toList.length = s.size := by rw [Lib.size_eq]
    have hnil : s.data.toList ≠ [] := fun e => by rw [e] at hlen; simp at hlen; omega
    rw [e]
    rw [h3] at hth ⊢
    have htr := trimAt hz
    unfold classNo
    by_cases hd : s.data.toList.all isDigit = true
    · have hT : Lib.trimS s.data.toList digSet = [] := (trim_digits _).2 hd
      rw [hT] at htr
      by_cases h48 : 1 < s.data.toList.length ∧ s.data.toList.head? = some 48
      · rw [if_neg (fun hx => hx.2.2 h48)]
        have h1 : 1 < s.size := by omega
        have hs0 : s[0].toNat = 48 := by
          have := Lib.getD_at s 0 (by omega)
          rw [this]
          have h2 := h48.2
          cases hl : s.data.toList with
          | nil => exact absurd hl hnil
          | cons c r => rw [hl] at h2; simp at h2; subst h2; rfl
        exact (class_nought B.x b off cap s lo hi w hb hcs h1 hs0 (Lib.hid htr) hth).mono fun e w' ⟨h1, h2⟩ => ⟨h1, Bel.of h2 hn₀⟩
      · rw [if_pos ⟨hd, hnil, h48⟩]
        have h1 : s.size ≤ 1 ∨ (1 < s.size ∧ ¬ (s[0].toNat : Int) = 48) := by
          by_cases hs1 : s.size ≤ 1
          · exact .inl hs1
          · refine .inr ⟨by omega, fun hx => h48 ⟨by omega, ?_⟩⟩
            have := Lib.getD_at s 0 (by omega)
            cases hl : s.data.toList with
            | nil => exact absurd hl hnil
            | cons c r =>
              rw [hl] at this
              simp only [List.getD_cons_zero] at this
              rw [this] at hx
              simp only [List.head?_cons, Option.some.injEq]
              apply UInt8.toNat_inj.1
              show c.toNat = 48
              omega
        rcases atoi_digits hd hnil with ha | ⟨ha, hbig⟩
        · by_cases hn : 254 < decGo s.data.toList 0
          · rw [if_pos hn]
            exact (class_big B.x b off cap s lo hi _ w hb hcs h0 h1 (by omega) (Lib.hid htr) (Lib.hid (atoiOk hz ha)) hth).mono fun e w' ⟨h1, h2⟩ => ⟨h1, Bel.of h2 hn₀⟩
          · rw [if_neg hn]
            exact class_ok b off cap s lo hi _ w h hn₀ hmany hb hcs h0 h1 (by omega) (by omega) (Lib.hid htr) (Lib.hid (atoiOk hz ha)) hth
        · rw [if_pos hbig]
          exact (class_range B.x b off cap s lo hi w ev hb hcs (Nat.lt_of_lt_of_le hv.lt.2 hn₀) hv.range h0 h1 (Lib.hid htr) (Lib.hid (atoiBad hz ha hv.iface)) hth).mono fun e w' ⟨h1, h2⟩ => ⟨h1, Bel.of h2 hn₀⟩
    · rw [if_neg (fun hx => hd hx.1)]
      have hT : (⟨(Lib.trimS s.data.toList digSet).toArray⟩ : ByteArray).toList.isEmpty = false := by
        rw [byteArray_empty]
        cases hl : Lib.trimS s.data.toList digSet with
        | nil => exact absurd ((trim_digits _).1 hl) hd
        | cons c r => rfl
      exact (class_num B.x b off cap s _ lo hi w hb hcs hT (Lib.hid htr) hth).mono fun e w' ⟨h1, h2⟩ => ⟨h1, Bel.of h2 hn₀⟩
theorem decompLine_calls {B : Blocks} {cv kv : Value} {n₀ : Nat} {st : St} {line : Int} (v : Value) (ws : List ByteArray) (hsz : ∀ s ∈ ws, s.size ≤ 1048576) (hok : StOk st) (w : World) (h : StB B cv kv n₀ w st line) (hn₀ : n₀ ≤ w.heap.size) (hw : WordsAt w.heap.size w v ws) :
    Calls Tryz.prog 67 #[.pointer (some ⟨B.x, 0, none⟩), v] w fun e w' => MethOut B n₀ line (doDecomp st (wl ws) line) e w' ∧ Bel B n₀ w w' := by
  unfold doDecomp
  cases hs : someOf (wl ws) with
  | error k => exact (dec_err B.x v k w (Lib.hid (some_err v ws hsz w hw hs))).mono fun e w' ⟨h1, h2⟩ => ⟨h1, Bel.of h2 hn₀⟩
  | ok l =>
    obtain ⟨r, ps, rfl, hne, h8⟩ := someOf_len hs
    have h1 : 1 ≤ ps.length := List.length_pos_iff.2 hne
    have hso := Lib.hid (some_ok v ws hsz w hw hne hs)
    simp only
    cases hl : lookD st.d.decomps r with
    | some q =>
      rw [if_pos (by simp)]
      exact (dec_twice v w h r ps hso (by rw [hl]; rfl)).mono fun e w' ⟨h1, h2⟩ => ⟨h1, Bel.of h2 hn₀⟩
    | none =>
      rw [if_neg (by simp)]
      have hr : r ∉ st.lines.map (·.1) := by rw [hok.keys]; exact lookD_none.1 hl
      cases hsy : isSyl r with
      | true =>
        rw [if_pos (by simp)]
        exact (dec_arg v w h r ps hso hl true (Lib.hid (sylAt hsy)) (fun e => by cases e)).mono fun e w' ⟨h1, h2⟩ => ⟨h1, Bel.of h2 hn₀⟩
      | false =>
        cases hja : isJamo r with
        | true =>
          rw [if_pos (by simp)]
          exact (dec_arg v w h r ps hso hl false (Lib.hid (sylAt hsy)) (fun _ => jamAt hja)).mono fun e w' ⟨h1, h2⟩ => ⟨h1, Bel.of h2 hn₀⟩
        | false =>
          rw [if_neg (by simp)]
          by_cases h2 : ps.length = 2
          · obtain ⟨a, d, rfl⟩ : ∃ a d, ps = [a, d] := by
              match ps, h2 with
              | [a, d], _ => exact ⟨a, d, rfl⟩
            cases hle : least st.d.decomps a d with
            | none => exact dec_pair_new v w h hn₀ r a d hso hle hl hr (Lib.hid (sylAt hsy)) (Lib.hid (jamAt hja))
            | some mm =>
              by_cases hlt : r < mm
              · exact dec_pair_less v w h hn₀ r a d hso mm hle hlt hl hr (Lib.hid (sylAt hsy)) (Lib.hid (jamAt hja))
              · exact dec_pair_not v w h hn₀ r a d hso mm hle (by omega) hl hr (Lib.hid (sylAt hsy)) (Lib.hid (jamAt hja))
          · exact dec_plain v w h hn₀ r ps h1 h8 (by omega) hso hl hr (Lib.hid (sylAt hsy)) (Lib.hid (jamAt hja))
end Go.Proofs.YtikpkjpnehkbfaaGreatDoor.Pr
namespace Go.Proofs.YtikpkjpnehkbfaaGreatDoor.Pr
open Go Go.RowKit Go.Shelf Go.Proofs.YtikpkjpnehkbfaaGreatDoor.Sp Go.Proofs.YtikpkjpnehkbfaaGreatDoor.Mapl Go.Proofs.YtikpkjpnehkbfaaGreatDoor.Rowl
def kindStrs : List ByteArray := [⟨#[111, 116, 104, 101, 114]⟩, ⟨#[108, 101, 116, 116, 101, 114]⟩, ⟨#[100, 105, 103, 105, 116]⟩, ⟨#[109, 97, 114, 107]⟩, ⟨#[115, 112, 97, 99, 101]⟩, ⟨#[99, 111, 110, 116, 114, 111, 108]⟩, ⟨#[106, 111, 105, 110, 101, 114]⟩, ⟨#[109, 105, 100, 100, 108, 101]⟩]
theorem kindStrs_names : wl kindStrs = kindNames := rfl
theorem idxFrom_eq (x : ByteArray) : ∀ (zs : List ByteArray) (i : Nat), Lib.idxFromS zs x i = match (wl zs).idxOf? x.data.toList with | none => -1 | some k => ((i + k : Nat) : Int)
  | [], i => rfl
  | z :: zs, i => by
    have ih := idxFrom_eq x zs (i + 1)
    have e1 : wl (z :: zs) = z.data.toList :: wl zs := rfl
    rw [e1, List.idxOf?_cons]
    unfold Lib.idxFromS
    by_cases h : z = x
    · subst h
      simp
    · have hne : ¬ z.data.toList = x.data.toList := fun e => h (by
        cases z; cases x
        simp only at e
        rw [Array.toList_inj.1 e])
      have hb : (z.data.toList == x.data.toList) = false := beq_eq_false_iff_ne.2 hne
      rw [hb]
      simp only [Bool.false_eq_true, if_false]
      first | rw [if_neg h, ih] | (rw [if_neg (fun e => h e.symm), ih]) | (simp only [h, if_false, ih])
      cases (wl zs).idxOf? x.data.toList with
      | none => rfl
      | some k =>
        show ((i + 1 + k : Nat) : Int) = ((i + (k + 1) : Nat) : Int)
        congr 1
        omega
def kindCells : Array Value := #[.string ⟨#[111, 116, 104, 101, 114]⟩, .string ⟨#[108, 101, 116, 116, 101, 114]⟩, .string ⟨#[100, 105, 103, 105, 116]⟩, .string ⟨#[109, 97, 114, 107]⟩, .string ⟨#[115, 112, 97, 99, 101]⟩, .string ⟨#[99, 111, 110, 116, 114, 111, 108]⟩, .string ⟨#[106, 111, 105, 110, 101, 114]⟩, .string ⟨#[109, 105, 100, 100, 108, 101]⟩]
def IdxAt (s : ByteArray) (n : Int) : Prop := ∀ (W : World) (H : Nat), W.heap.size = H → Calls Tryz.prog 110 #[.slice (some ⟨H, 0, none⟩) 8 8, .string s] (W.alloc (.cells #[.string ⟨#[111, 116, 104, 101, 114]⟩, .string ⟨#[108, 101, 116, 116, 101, 114]⟩, .string ⟨#[100, 105, 103, 105, 116]⟩, .string ⟨#[109, 97, 114, 107]⟩, .string ⟨#[115, 112, 97, 99, 101]⟩, .string ⟨#[99, 111, 110, 116, 114, 111, 108]⟩, .string ⟨#[106, 111, 105, 110, 101, 114]⟩, .string ⟨#[109, 105, 100, 100, 108, 101]⟩] 9)) fun e w' => e = .returned (.int .i64 n) ∧ w' = W.alloc (.cells #[.string ⟨#[111, 116, 104, 101, 114]⟩, .string ⟨#[108, 101, 116, 116, 101, 114]⟩, .string ⟨#[100, 105, 103, 105, 116]⟩, .string ⟨#[109, 97, 114, 107]⟩, .string ⟨#[115, 112, 97, 99, 101]⟩, .string ⟨#[99, 111, 110, 116, 114, 111, 108]⟩, .string ⟨#[106, 111, 105, 110, 101, 114]⟩, .string ⟨#[109, 105, 100, 100, 108, 101]⟩] 9)
theorem idxAt (s : ByteArray) : IdxAt s (Lib.idxOfS kindStrs s) := fun W H hH => by
  subst hH
  have h := Tryz.slices_Index_string W.heap.size 0 8 8 kindStrs s (W.alloc (.cells kindCells 9)) (by decide) (by decide) (fun j hj => by
    have := cells_laid (e := 9) W kindCells.toList rfl (by decide) j (.string (kindStrs.getD j ByteArray.empty)) (by
      have hj' : j < 8 := hj
      match j, hj' with
      | 0, _ => rfl
      | 1, _ => rfl
      | 2, _ => rfl
      | 3, _ => rfl
      | 4, _ => rfl
      | 5, _ => rfl
      | 6, _ => rfl
      | 7, _ => rfl)
    rw [show ((⟨W.heap.size, 0, none⟩ : Addr).add j) = ⟨W.heap.size, 0 + j, none⟩ by (unfold Addr.add; split <;> simp_all)] at this
    exact this)
  exact h
set_option maxHeartbeats 4000000 in
theorem kind_err (x : Nat) (v : Value) (k : Int) (w : World) (hs : Hid (ThreeAt v w 0 0 (errV k))) :
    Calls Tryz.prog 65 #[.pointer (some ⟨x, 0, none⟩), v] w fun e w' => e = .returned (errV k) ∧ Below w.heap.size w w' := by
  have he : errV k = .iface 87 (.int .i64 k) := rfl
  unfold ThreeAt at hs
  rw [he] at hs ⊢
  clear he
  go_enter Tryz.func65, Tryz.ntmps65
  go_wp2_with (go_at_call 107; refine hs.out.mono ?_; rintro e w1 ⟨rfl, hb⟩)
  go_ret
  exact ⟨rfl, hb.alloc hb.size _⟩
theorem word_at2 {w w1 : World} {b off : Nat} {s : ByteArray} (hc : w.cell? ⟨b, off + 2, none⟩ = some (.string s)) (hb : Below w.heap.size w w1) (hlt : b < w.heap.size) (o o2 : Obj) : ((w1.alloc o).alloc o2).cell? ⟨b, off + 2, none⟩ = some (.string s) :=
  Lib.cell?_alloc_some o2 (word_at hc hb hlt o)
set_option maxHeartbeats 4000000 in
set_option maxRecDepth 100000 in
theorem kind_word (x b off c : Nat) (s : ByteArray) (lo hi : Int) (w : World) (hlt : b < w.heap.size) (hc : w.cell? ⟨b, off + 2, none⟩ = some (.string s)) (hx : Hid (IdxAt s (-1))) (hs : Hid (ThreeAt (.slice (some ⟨b, off, none⟩) 3 c) w lo hi .nilIface)) :
    Calls Tryz.prog 65 #[.pointer (some ⟨x, 0, none⟩), .slice (some ⟨b, off, none⟩) 3 c] w fun e w' => e = .returned (errV 12) ∧ Below w.heap.size w w' := by
  unfold ThreeAt at hs
  go_enter Tryz.func65, Tryz.ntmps65
  go_wp2_with (first | (go_at_call 107; refine hs.out.mono ?_; rintro e w1 ⟨rfl, hb⟩; have hcw := word_at2 hc hb hlt (.cells #[.int .i32 lo, .int .i32 hi] 158) (.cells #[.string ⟨#[111, 116, 104, 101, 114]⟩, .string ⟨#[108, 101, 116, 116, 101, 114]⟩, .string ⟨#[100, 105, 103, 105, 116]⟩, .string ⟨#[109, 97, 114, 107]⟩, .string ⟨#[115, 112, 97, 99, 101]⟩, .string ⟨#[99, 111, 110, 116, 114, 111, 108]⟩, .string ⟨#[106, 111, 105, 110, 101, 114]⟩, .string ⟨#[109, 105, 100, 100, 108, 101]⟩] 9); have hba := hb.alloc hb.size (.cells #[.int .i32 lo, .int .i32 hi] 158)) | (go_at_call 110; refine (hx.out _ _ (by simp)).mono ?_; rintro e w2 ⟨rfl, hw2⟩; subst w2))
  go_ret
  exact ⟨rfl, hba.alloc hba.size _⟩
set_option maxHeartbeats 8000000 in
set_option maxRecDepth 100000 in
theorem kind_ok {B : Blocks} {cv kv : Value} {n₀ : Nat} {st : St} {line : Int} (b off c : Nat) (s : ByteArray) (lo hi n : Int) (w : World) (h : StB B cv kv n₀ w st line) (hn₀ : n₀ ≤ w.heap.size) (hmany : st.d.kinds.length ≤ 1048576) (hlt : b < w.heap.size) (hc : w.cell? ⟨b, off + 2, none⟩ = some (.string s)) (hn0 : 0 ≤ n) (hn : n ≤ 8) (hx : Hid (IdxAt s n)) (hs : Hid (ThreeAt (.slice (some ⟨b, off, none⟩) 3 c) w lo hi .nilIface)) :
    Calls Tryz.prog 65 #[.pointer (some ⟨B.x, 0, none⟩), .slice (some ⟨b, off, none⟩) 3 c] w fun e w' => MethOut B n₀ line (.ok { st with d := { st.d with kinds := st.d.kinds ++ [⟨lo, hi, n⟩] } }) e w' ∧ Bel B n₀ w w' := by
  unfold ThreeAt at hs
  obtain ⟨ii, hi0, hz0, hz1, hz2⟩ := info_parts infoRow
  have H := Lib.hid h
  clear h
  go_enter Tryz.func65, Tryz.ntmps65
  go_wp2_with (first | (go_at_call 107; refine hs.out.mono ?_; rintro e w1 ⟨rfl, hb⟩; have hcw := word_at2 hc hb hlt (.cells #[.int .i32 lo, .int .i32 hi] 158) (.cells #[.string ⟨#[111, 116, 104, 101, 114]⟩, .string ⟨#[108, 101, 116, 116, 101, 114]⟩, .string ⟨#[100, 105, 103, 105, 116]⟩, .string ⟨#[109, 97, 114, 107]⟩, .string ⟨#[115, 112, 97, 99, 101]⟩, .string ⟨#[99, 111, 110, 116, 114, 111, 108]⟩, .string ⟨#[106, 111, 105, 110, 101, 114]⟩, .string ⟨#[109, 105, 100, 100, 108, 101]⟩] 9); have hba := hb.alloc hb.size (.cells #[.int .i32 lo, .int .i32 hi] 158)) | (go_at_call 110; refine (hx.out _ _ (by simp)).mono ?_; rintro e w2 ⟨rfl, hw2⟩; subst w2))
  obtain ⟨w3, hw3⟩ : ∃ w3, (w1.alloc (.cells #[.int .i32 lo, .int .i32 hi] 158)).alloc (.cells #[.string ⟨#[111, 116, 104, 101, 114]⟩, .string ⟨#[108, 101, 116, 116, 101, 114]⟩, .string ⟨#[100, 105, 103, 105, 116]⟩, .string ⟨#[109, 97, 114, 107]⟩, .string ⟨#[115, 112, 97, 99, 101]⟩, .string ⟨#[99, 111, 110, 116, 114, 111, 108]⟩, .string ⟨#[106, 111, 105, 110, 101, 114]⟩, .string ⟨#[109, 105, 100, 100, 108, 101]⟩] 9) = w3 := ⟨_, rfl⟩
  have hb3 : Below (w1.alloc (.cells #[.int .i32 lo, .int .i32 hi] 158)).heap.size (w1.alloc (.cells #[.int .i32 lo, .int .i32 hi] 158)) w3 := by rw [← hw3]; exact (Below.refl _ _).alloc (Nat.le_refl _) _
  rw [hw3]
  clear hw3 hcw
  have hbw := hba.trans (hb3.mono hba.size)
  have hK : Two w1 w3 (.int .i32 lo) (.int .i32 hi) := (Two.start w1 (.int .i32 lo) (.int .i32 hi) 158).later hb3
  have h3 := H.out.later hbw
  have t0 := hK.c0
  have t1 := hK.c1
  have c1 : w3.cell? ⟨B.x, 0, none⟩ = some (.pointer (some ⟨B.p, 0, none⟩)) := by rw [cell_of_row w3 _ 0 _ _ (0, 0) h3.hx]; rfl
  have c2 : w3.cell? ⟨B.p, 1, none⟩ = some kv := by rw [cell_of_row w3 _ 1 _ _ (0, 0) h3.hp]; rfl
  have hown := h3.hk
  have hbase := Nat.le_trans hn₀ hbw.size
  have hf : w3.frozen? ⟨B.p, 1, none⟩ = false := by simp [World.frozen?, h3.hp]
  have hpl := lt_of_block h3.hp
  have hne := (h3.rows h3.hk).2.1
  have hcv := cv_slice hown
  obtain ⟨cA, cC, rfl⟩ := hcv
  have H3 := Lib.hid h3
  have hX : (w3.alloc (.cells #[.int .i32 lo, .int .i32 hi, .int .i64 n] 162)).drew.heap[B.p]? = w3.heap[B.p]? := Below.heap_alloc w3 _ _ hpl
  have hX0 : (w3.alloc (.cells #[.int .i32 lo, .int .i32 hi, .int .i64 n] 162)).drew.heap[B.x]? = w3.heap[B.x]? := Below.heap_alloc w3 _ _ (lt_of_block h3.hx)
  have HX := Lib.hid hX
  have HX0 := Lib.hid hX0
  have hxl := lt_of_block h3.hx
  have hne0 := (h3.rows h3.hk).1
  have y1 := Lib.cell?_alloc_some (.cells #[.int .i32 lo, .int .i32 hi, .int .i64 n] 162) c1
  have y2 := Lib.cell?_alloc_some (.cells #[.int .i32 lo, .int .i32 hi, .int .i64 n] 162) c2
  clear h3 hK hX hX0
  go_region_law (refine step_append_lies _ (by rfl) _ _ _ (by rfl) n₀ 162 ii _ 3 16 Tryz.underlying91 hi0 hz0 hz1 hz2 rfl (by omega) _ _ _ (by rfl) ((hown.alloc _).drew) ⟨w3.heap.size, 0, none⟩ 1 1 [.int .i32 lo, .int .i32 hi, .int .i64 n] (by rfl) (by rfl) (World.news_of_block (cs := #[.int .i32 lo, .int .i32 hi, .int .i64 n]) (t := 162) (fr := (0, 0)) (heap_alloc_new w3 _)) (by simp [Value.oneCell']) (by omega) (by simp only [maxLen]; omega) (by omega) (by simp; omega) (w3.heap.size + 1) (by simp) ?_; intro gg cap w4 hown4 hgrow hat hgl; have q0 := (World.cell?_of_block (a := ⟨B.x, 0, none⟩) ((hgrow.block B.x (by simp; omega) (Ne.symm hne0)).trans HX0.out)).trans c1; have q1 := (World.cell?_of_block (a := ⟨B.p, 1, none⟩) ((hgrow.block B.p (by simp; omega) (Ne.symm hne)).trans HX.out)).trans c2; have q2 := (World.frozen?_of_block (a := ⟨B.p, 1, none⟩) ((hgrow.block B.p (by simp; omega) (Ne.symm hne)).trans HX.out)).trans hf)
  all_goals
    go_wp2
    go_ret
    have hE := kind_close H3.out lo hi n _ hbase hgrow hown4 hat
    exact ⟨⟨rfl, _, _, hE.1⟩, (Bel.of hbw hn₀).trans hE.2⟩
end Go.Proofs.YtikpkjpnehkbfaaGreatDoor.Pr
namespace Go.Proofs.YtikpkjpnehkbfaaGreatDoor.Pr
open Go Go.RowKit Go.Shelf Go.Proofs.YtikpkjpnehkbfaaGreatDoor.Sp Go.Proofs.YtikpkjpnehkbfaaGreatDoor.Mapl Go.Proofs.YtikpkjpnehkbfaaGreatDoor.Rowl
theorem kindLine_calls {B : Blocks} {cv kv : Value} {n₀ : Nat} {st : St} {line : Int} (v : Value) (ws : List ByteArray) (hsz : ∀ s ∈ ws, s.size ≤ 1048576) {m : Int} {ev : Value} (w : World) (h : StB B cv kv n₀ w st line) (hn₀ : n₀ ≤ w.heap.size) (hmany : st.d.kinds.length ≤ 1048576) (hv : Vars n₀ w m ev) (hw : WordsAt w.heap.size w v ws) :
    Calls Tryz.prog 65 #[.pointer (some ⟨B.x, 0, none⟩), v] w fun e w' => MethOut B n₀ line (doKind st (wl ws)) e w' ∧ Bel B n₀ w w' := by
  unfold doKind
  cases ht : threeOf (wl ws) with
  | error k => exact (kind_err B.x v k w (Lib.hid (three_err hsz w hw hv ht))).mono fun e w' ⟨h1, h2⟩ => ⟨h1, Bel.of h2 hn₀⟩
  | ok p =>
    obtain ⟨lo, hi⟩ := p
    simp only
    have h3 := threeOf_len ht
    rw [wl_length] at h3
    have hth := Lib.hid (three_got hsz w hw hv ht)
    obtain ⟨b, off, cap, rfl, hb, hc1, hc2, hcell⟩ := hw
    obtain ⟨s, hs⟩ : ∃ s, ws[2]? = some s := ⟨_, List.getElem?_eq_getElem (by omega)⟩
    have e : (wl ws).getD 2 [] = s.data.toList := by rw [List.getD_eq_getElem?_getD, wl_at hs]; rfl
    have hcs := hcell 2 s hs
    rw [e]
    rw [h3] at hth ⊢
    have hi0 := idxAt s
    have hi1 : Lib.idxOfS kindStrs s = Lib.idxFromS kindStrs s 0 := rfl
    rw [hi1, idxFrom_eq, kindStrs_names] at hi0
    cases hx : kindNames.idxOf? s.data.toList with
    | none =>
      rw [hx] at hi0
      exact (kind_word B.x b off cap s lo hi w hb hcs (Lib.hid hi0) hth).mono fun e w' ⟨h1, h2⟩ => ⟨h1, Bel.of h2 hn₀⟩
    | some n =>
      rw [hx] at hi0
      simp only [Nat.zero_add] at hi0
      have hn : n < 8 := by
        rw [List.idxOf?_eq_some_iff] at hx
        obtain ⟨h, _⟩ := hx
        exact h
      exact kind_ok b off cap s lo hi n w h hn₀ hmany hb hcs (by omega) (by omega) (Lib.hid hi0) hth
end Go.Proofs.YtikpkjpnehkbfaaGreatDoor.Pr
