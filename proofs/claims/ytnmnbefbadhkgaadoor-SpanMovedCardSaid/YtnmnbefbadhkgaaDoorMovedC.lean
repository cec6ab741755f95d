/-
  WALK: the law SpanMoved where the outcome is moved.
-/
import Derived.Test.YtnmnbefbadhkgaaDoorMovedB
namespace Go.Proofs.YtnmnbefbadhkgaaDoor
open Go.RowKit

theorem same_self (w : World) (B : Nat) (ok : Bool) (tt t2 : Int) (caps cs2 : List Cap) (A A' : Option Addr) (c c' : Nat) (hr : Reads w B 3 A caps.length (capCells caps)) (hr' : Reads w B 3 A' cs2.length (capCells cs2)) (hB : B ≤ w.heap.size) (hl : caps.length ≤ maxLen) (he : t2 = tt) (hc : cs2 = caps) :
    Calls Tryd.prog 11 #[.agg #[.bool ok, .int .i64 t2, .slice A' cs2.length c'], .agg #[.bool ok, .int .i64 tt, .slice A caps.length c]] w fun e w' => e = .returned (.bool true) ∧ Below w.heap.size w w' := by
  subst he hc
  refine (same_any w ⟨⟨ok, t2, cs2⟩, A', c'⟩ ⟨⟨ok, t2, cs2⟩, A, c⟩ (hr'.more hB) (hr.more hB) hl hl).mono fun e w' ⟨he, hb⟩ => ⟨he.trans ?_, hb⟩
  rw [(sameB_iff _ _).2 rfl]

theorem may_good (w : World) (B : Nat) (A : Option Addr) (c : Nat) (tt n : Int) (caps : List Cap) (hr : Reads w B 3 A caps.length (capCells caps)) (hB : B ≤ w.heap.size) (hf : Out.fits ⟨true, tt, caps⟩) (hg : Good ⟨true, tt, caps⟩ n) :
    Calls Tryd.prog 13 #[.agg #[.bool true, .int .i64 tt, .slice A caps.length c], .int .i64 n] w fun e w' => e = .returned (.bool true) ∧ Below w.heap.size w w' :=
  (spanMay_at w B A c true tt n caps hr hB hf).mono fun e w' ⟨he, hb⟩ => ⟨by rw [he, (good_iff _ _ rfl).2 hg], hb⟩
theorem may_short (w : World) (B : Nat) (A : Option Addr) (c : Nat) (tt n : Int) (caps : List Cap) (hr : Reads w B 3 A caps.length (capCells caps)) (hB : B ≤ w.heap.size) (hf : Out.fits ⟨true, tt, caps⟩) (hn : n < tt) :
    Calls Tryd.prog 13 #[.agg #[.bool true, .int .i64 tt, .slice A caps.length c], .int .i64 n] w fun e w' => e = .returned (.bool false) ∧ Below w.heap.size w w' :=
  (spanMay_at w B A c true tt n caps hr hB hf).mono fun e w' ⟨he, hb⟩ => ⟨by
    rw [he]
    have : mayB ⟨true, tt, caps⟩ n = false := by
      cases hm : mayB ⟨true, tt, caps⟩ n
      · rfl
      · have := ((good_iff _ _ rfl).1 hm).t1
        dsimp only at this
        omega
    rw [this], hb⟩

theorem mv_fits {tt by_ : Int} {caps : List Cap} (hf : Out.fits ⟨true, tt, caps⟩) (hg : Good ⟨true, tt, caps⟩ 4096) (h0 : -(leastOf tt caps) ≤ by_) (h1 : tt + by_ ≤ 4096) : Out.fits ⟨true, tt + by_, caps.map (Cap.mv by_)⟩ := by
  have hl := hg.least
  have h2 := hg.t0
  have h3 := hg.t1
  dsimp only at hl h2 h3
  refine ⟨⟨by dsimp only; omega, by dsimp only; omega⟩, by simpa using hf.2.1, fun c hc => ?_⟩
  obtain ⟨d, hd, rfl⟩ := List.mem_map.1 hc
  have h4 := hg.caps d hd
  have h5 := hf.2.2 d hd
  dsimp only at h4
  exact ⟨h5.1, ⟨by show _ ≤ d.fr + by_; omega, by show d.fr + by_ ≤ _; omega⟩, ⟨by show _ ≤ d.to + by_; omega, by show d.to + by_ ≤ _; omega⟩⟩

set_option maxRecDepth 100000 in
set_option maxHeartbeats 4000000 in
theorem moved_ok (w : World) (A : Option Addr) (c : Nat) (tt by_ : Int) (caps : List Cap) (hr : Reads w w.heap.size 3 A caps.length (capCells caps)) (hf : Out.fits ⟨true, tt, caps⟩) (ht : Tab w) (hm : Good ⟨true, tt, caps⟩ 4096)
    (hn0 : -(leastOf tt caps) ≤ by_) (hn1 : tt + by_ ≤ 4096) :
    Calls Tryd.prog 3 #[.agg #[.bool true, .int .i64 tt, .slice A caps.length c], .int .i64 by_] w fun e w' => e = .returned (.bool true) ∧ Below w.heap.size w w' := by
  have hfm := mv_fits hf hm hn0 hn1
  have hgm := hm.mv hn0 hn1
  have hl0 := hm.least
  have ht0 := hm.t0
  have ht1 := hm.t1
  have ht2 := hgm.t0
  dsimp only [Out.mv] at hl0 ht0 ht1 ht2
  have hgm4 : Good ⟨true, tt + by_, caps.map (Cap.mv by_)⟩ 4096 := hgm.at_ hn1 (by omega)
  have hlm := leastOf_mv by_ tt caps
  have hback := mv_mv by_ ⟨true, tt, caps⟩
  simp only [Out.mv, Out.mk.injEq, true_and] at hback
  obtain ⟨M, hM⟩ : ∃ M, caps.map (Cap.mv by_) = M := ⟨_, rfl⟩
  have hsh := fun (w : World) (A : Option Addr) (c : Nat) h1 => shift_ok w A c tt by_ caps h1 hf hm hn0 hn1
  rw [hM] at hback hsh hgm4 hfm
  rw [hM] at hlm
  have hgm : Good ⟨true, tt + by_, M⟩ (tt + by_) := by rw [← hM]; exact hgm
  have HL := Lib.hid hlm
  have HB := Lib.hid hback
  have hml : M.length ≤ 65536 := hgm.cnt
  clear hlm hback hM
  have htl := ht.lt
  go_enter Tryd.func3, Tryd.ntmps3
  go_wp2_with fail
  refine (works_any _ (ht.below ((Below.refl _ _).alloc (Nat.le_refl _) _) htl)).mono ?_
  rintro e w1 ⟨rfl, hb1⟩
  have hbw1 : Below w.heap.size w w1 := ((Below.refl _ _).alloc (Nat.le_refl _) _).trans (hb1.mono (by simp))
  have hz1 : w.heap.size < w1.heap.size := by have := hb1.size; simp at this; omega
  have bk1 := (Blk.new_ w 24 #[.bool true, .int .i64 tt, .slice A caps.length c]).below hb1 (by simp)
  have hr1 := hr.below hbw1
  obtain ⟨⟨k0, k1, k2⟩, _⟩ := bk1.three
  clear hb1
  go_wp2_with fail
  refine (long_one w1 A c w1.heap.size true tt caps (hr1.more (by omega)) hf rfl).mono ?_
  rintro e w2 ⟨b, rfl, hlong, rfl⟩
  have hbw2 : Below w.heap.size w (w1.alloc (.cells #[.bool true, .int .i64 tt, .slice A caps.length c] 24)) := hbw1.alloc (by omega) _
  have htb2 := ht.below hbw2 htl
  cases b with
  | true =>
    go_wp2_with fail
    refine (works_any _ htb2).mono ?_
    rintro e w3 ⟨rfl, hb3⟩
    go_wp2
    go_ret
    exact ⟨rfl, hbw2.trans (hb3.mono (by simp; omega))⟩
  | false =>
    have hr2 := hr1.alloc (by omega) (.cells #[.bool true, .int .i64 tt, .slice A caps.length c] 24)
    have bk2 := bk1.alloc (.cells #[.bool true, .int .i64 tt, .slice A caps.length c] 24)
    go_wp2_with fail
    refine (hsh _ A c (hr2.more (by simp; omega))).mono ?_
    rintro e w3 ⟨A3, cap3, rfl, hown3, hb3⟩
    have bk3 := bk2.below hb3 bk2.lt
    have hbw3 := hbw2.trans (hb3.mono (by simp; omega))
    have hr3 := hr2.below (hb3.mono (by simp; omega))
    have hz3 : w.heap.size < w3.heap.size := by have := hb3.size; simp at this; omega
    clear hb3 k0 k1 k2 bk1 bk2 hr1 hr2 hlong hbw1 hbw2 htb2 hsh
    have hrx := hown3.rd.alloc (Nat.le_refl _) (.cells #[.bool true, .int .i64 (tt + by_), .slice A3 M.length cap3] 24)
    have bo3 := bk3.alloc (.cells #[.bool true, .int .i64 (tt + by_), .slice A3 M.length cap3] 24)
    have bx3 := Blk.new_ w3 24 #[.bool true, .int .i64 (tt + by_), .slice A3 M.length cap3]
    have hro := hr3.alloc (by omega) (.cells #[.bool true, .int .i64 (tt + by_), .slice A3 M.length cap3] 24)
    have hbw3' := hbw3.alloc (by omega) (.cells #[.bool true, .int .i64 (tt + by_), .slice A3 M.length cap3] 24)
    obtain ⟨⟨m0, m1, m2⟩, _⟩ := bk3.three
    clear hown3 bk3
    go_wp2_with fail
    refine (shift_ok _ A3 cap3 (tt + by_) (-by_) M (hrx.more (by simp)) hfm hgm4 (by rw [HL.out]; omega) (by omega)).mono ?_
    rintro e w5 ⟨A5, cap5, rfl, hown5, hb5⟩
    rw [HB.out.1, HB.out.2] at *
    have hz5 : w3.heap.size + 1 ≤ w5.heap.size := by have := hb5.size; simp at this; omega
    have bo5 := (bo3.below hb5 bo3.lt).alloc (.cells #[.bool true, .int .i64 tt, .slice A5 caps.length cap5] 24)
    have bx5 := (bx3.below hb5 bx3.lt).alloc (.cells #[.bool true, .int .i64 tt, .slice A5 caps.length cap5] 24)
    have by5 := Blk.new_ w5 24 #[.bool true, .int .i64 tt, .slice A5 caps.length cap5]
    have hro5 := (hro.below (hb5.mono (by simp; omega))).alloc (by omega) (.cells #[.bool true, .int .i64 tt, .slice A5 caps.length cap5] 24)
    have hrx5 := (hrx.below (hb5.mono (by simp))).alloc (by omega) (.cells #[.bool true, .int .i64 tt, .slice A5 caps.length cap5] 24)
    have hry5 := hown5.rd.alloc (Nat.le_refl _) (.cells #[.bool true, .int .i64 tt, .slice A5 caps.length cap5] 24)
    have hbw5 := (hbw3'.trans (hb5.mono (by simp; omega))).alloc (by omega) (.cells #[.bool true, .int .i64 tt, .slice A5 caps.length cap5] 24)
    obtain ⟨⟨o0, o1, o2⟩, _⟩ := bo5.three
    obtain ⟨⟨x0, x1, x2⟩, _⟩ := bx5.three
    obtain ⟨⟨y0, y1, y2⟩, _⟩ := by5.three
    clear hb5 hown5 bo3 bx3 hro hrx hbw3 hbw3' hr3 m0 m1 m2 hr hz1
    go_wp2_with fail
    refine (same_self _ w5.heap.size true tt tt caps caps A A5 c cap5 (hro5.more (by omega)) hry5 (by simp) (by have := hm.cnt; unfold maxLen; dsimp only at this; omega) rfl rfl).mono ?_
    rintro e w6 ⟨rfl, hb6⟩
    have bo6 := bo5.below hb6 bo5.lt
    have bx6 := bx5.below hb6 bx5.lt
    have hro6 := hro5.below (hb6.mono (by simp; omega))
    have hrx6 := hrx5.below (hb6.mono (by simp; omega))
    have hbw6 := hbw5.trans (hb6.mono (by simp; omega))
    have hz6 : w5.heap.size + 1 ≤ w6.heap.size := by have := hb6.size; simp at this; omega
    obtain ⟨⟨p0, p1, p2⟩, _⟩ := bo6.three
    obtain ⟨⟨q0, q1, q2⟩, _⟩ := bx6.three
    clear hb6 o0 o1 o2 x0 x1 x2 y0 y1 y2 bo5 bx5 by5 hro5 hrx5 hry5 hbw5
    have e1 : ((tt + by_ - tt) == by_) = true := by rw [beq_iff_eq]; omega
    go_wp2_with fail
    refine (may_good _ w3.heap.size A3 cap3 (tt + by_) (tt + by_) M hrx6 (by omega) hfm hgm).mono ?_
    rintro e w7 ⟨rfl, hb7⟩
    have bo7 := bo6.below hb7 bo6.lt
    have bx7 := bx6.below hb7 bx6.lt
    have hro7 := hro6.below (hb7.mono (by omega))
    have hrx7 := hrx6.below (hb7.mono (by omega))
    have hbw7 := hbw6.trans (hb7.mono (by omega))
    have hz7 := hb7.size
    obtain ⟨⟨o0, o1, o2⟩, _⟩ := bo7.three
    obtain ⟨⟨x0, x1, x2⟩, _⟩ := bx7.three
    clear hb7 p0 p1 p2 q0 q1 q2 bo6 bx6 hro6 hrx6 hbw6
    have hmt : Good ⟨true, tt, caps⟩ tt := hm.at_ (Int.le_refl _) ht1
    go_wp2_with fail
    refine (may_good _ w.heap.size A c tt tt caps hro7 (by omega) hf hmt).mono ?_
    rintro e w8 ⟨rfl, hb8⟩
    have bo8 := bo7.below hb8 bo7.lt
    have bx8 := bx7.below hb8 bx7.lt
    have hrx8 := hrx7.below (hb8.mono (by omega))
    have hbw8 := hbw7.trans (hb8.mono (by omega))
    have hz8 := hb8.size
    obtain ⟨⟨p0, p1, p2⟩, _⟩ := bo8.three
    obtain ⟨⟨q0, q1, q2⟩, _⟩ := bx8.three
    clear hb8 o0 o1 o2 x0 x1 x2 bo7 bx7 hro7 hrx7 hbw7
    by_cases hx0 : ((tt + by_) == 0) = true
    · go_wp2
      go_ret
      exact ⟨ret_bool (by simp [*]), hbw8⟩
    · have hx1 : ((tt + by_) == 0) = false := by simpa using hx0
      clear hx0
      go_wp2_with fail
      refine (may_short _ w3.heap.size A3 cap3 (tt + by_) _ M hrx8 (by omega) hfm (by omega)).mono ?_
      rintro e w9 ⟨rfl, hb9⟩
      go_wp2
      go_ret
      exact ⟨rfl, hbw8.trans (hb9.mono (by omega))⟩

/-- THE LAW's WALK: true at every outcome and number. -/
theorem moved_any (w : World) (A : Option Addr) (c : Nat) (ok : Bool) (tt by_ : Int) (caps : List Cap) (hr : Reads w w.heap.size 3 A caps.length (capCells caps)) (hf : Out.fits ⟨ok, tt, caps⟩) (ht : Tab w) :
    Calls Tryd.prog 3 #[.agg #[.bool ok, .int .i64 tt, .slice A caps.length c], .int .i64 by_] w fun e w' => e = .returned (.bool true) ∧ Below w.heap.size w w' := by
  cases hm : mayB ⟨ok, tt, caps⟩ 4096
  · exact moved_nomay w A c ok tt by_ caps hr hf ht hm
  · cases ok
    · have h : tt = 0 ∧ caps = [] := by
        simp only [mayB, Bool.and_eq_true, decide_eq_true_eq, Bool.false_eq_true, if_false, beq_iff_eq] at hm
        exact ⟨hm.2.2.1, List.eq_nil_of_length_eq_zero hm.2.2.2⟩
      obtain ⟨rfl, rfl⟩ := h
      exact moved_fail w A c by_ hr ht
    · have hg := (good_iff _ _ rfl).1 hm
      by_cases hfar : by_ < -(leastOf tt caps) ∨ 4096 < tt + by_
      · exact moved_far w A c tt by_ caps hr hf ht hg hfar
      · exact moved_ok w A c tt by_ caps hr hf ht hg (by omega) (by omega)
end Go.Proofs.YtnmnbefbadhkgaaDoor
