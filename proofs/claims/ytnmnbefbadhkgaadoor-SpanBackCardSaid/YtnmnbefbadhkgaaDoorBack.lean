/-
  WALK: the law SpanBack.
-/
import Derived.Test.YtnmnbefbadhkgaaDoorBackM
import Derived.Test.YtnmnbefbadhkgaaDoorMovedA
namespace Go.Proofs.YtnmnbefbadhkgaaDoor
open Go Go.RowKit

/-- The outcome of a text, as a value in memory. -/
theorem parse_yes (w : World) (s : ByteArray) (hs : s.size < 4294967281) (hg : Glb w) {o : Out} (h : parseS s.data.toList = some o) :
    Calls Tryd.prog 24 #[.string s] w fun e w' => ∃ (A : Option Addr) (c : Nat), e = .returned (.tuple #[.agg #[.bool o.ok, .int .i64 o.to, .slice A o.caps.length c], .int .i64 0]) ∧ Reads w' w'.heap.size 3 A o.caps.length (capCells o.caps) ∧ Below w.heap.size w w' := by
  refine (parse_any w s hs hg).mono ?_
  intro e w' hp
  unfold ParseSays at hp
  rw [h] at hp
  obtain ⟨A, c, h1, h2, _, h4⟩ := hp
  exact ⟨A, c, h1, h2, h4⟩
theorem parse_no (w : World) (s : ByteArray) (hs : s.size < 4294967281) (hg : Glb w) (h : parseS s.data.toList = none) :
    Calls Tryd.prog 24 #[.string s] w fun e w' => e = .returned (.tuple #[.agg #[.bool false, .int .i64 0, .slice none 0 0], .int .i64 4]) ∧ Below w.heap.size w w' := by
  refine (parse_any w s hs hg).mono ?_
  intro e w' hp
  unfold ParseSays at hp
  rw [h] at hp
  exact hp
theorem same_two (w : World) (B : Nat) (ok : Bool) (tt : Int) (caps : List Cap) (A A' : Option Addr) (c c' : Nat) (hr : Reads w B 3 A caps.length (capCells caps)) (hr' : Reads w B 3 A' caps.length (capCells caps)) (hB : B ≤ w.heap.size) (hl : caps.length ≤ maxLen) :
    Calls Tryd.prog 11 #[.agg #[.bool ok, .int .i64 tt, .slice A caps.length c], .agg #[.bool ok, .int .i64 tt, .slice A' caps.length c']] w fun e w' => e = .returned (.bool true) ∧ Below w.heap.size w w' := by
  refine (same_any w ⟨⟨ok, tt, caps⟩, A, c⟩ ⟨⟨ok, tt, caps⟩, A', c'⟩ (hr.more hB) (hr'.more hB) hl hl).mono fun e w' ⟨he, hb⟩ => ⟨he.trans ?_, hb⟩
  rw [(sameB_iff _ _).2 rfl]
theorem mayB_fits {o : Out} (h : mayB o 4096 = true) : o.fits := by
  obtain ⟨ok, tt, caps⟩ := o
  cases ok
  · have h : tt = 0 ∧ caps = [] := by
      simp only [mayB, Bool.and_eq_true, decide_eq_true_eq, Bool.false_eq_true, if_false, beq_iff_eq] at h
      exact ⟨h.2.2.1, List.eq_nil_of_length_eq_zero h.2.2.2⟩
    obtain ⟨rfl, rfl⟩ := h
    exact ⟨by unfold isI64; dsimp only; omega, by simp, fun c hc => by cases hc⟩
  · have hg := (good_iff _ _ rfl).1 h
    have h0 : 0 ≤ tt := hg.t0
    have h1 : tt ≤ 4096 := hg.t1
    have h2 : caps.length ≤ 65536 := hg.cnt
    refine ⟨by unfold isI64; dsimp only; omega, by unfold maxLen; dsimp only; omega, fun c hc => ?_⟩
    obtain ⟨a, b, d, e⟩ := hg.caps c hc
    have := nameMay_le e
    dsimp only at d
    refine ⟨?_, by unfold isI64; omega, by unfold isI64; omega⟩
    simp at this
    unfold maxLen
    omega
theorem show_len {o : Out} (h : mayB o 4096 = true) : (showOut o).length < 4294967281 := by
  obtain ⟨ok, tt, caps⟩ := o
  cases ok
  · show 5 < _
    omega
  · have hg := (good_iff _ _ rfl).1 h
    have h1 := flat_len showCap 9000 caps (showCap_len hg)
    have h2 : caps.length ≤ 65536 := hg.cnt
    have h3 := showN_size tt hg.t0 hg.t1
    unfold showOut showHead
    simp only [if_true, List.length_append, List.length_cons, List.length_nil]
    omega

set_option maxRecDepth 100000 in
set_option maxHeartbeats 4000000 in
theorem back_any (w : World) (A : Option Addr) (c : Nat) (ok : Bool) (tt : Int) (caps : List Cap) (s : ByteArray) (hr : Reads w w.heap.size 3 A caps.length (capCells caps)) (hf : Out.fits ⟨ok, tt, caps⟩) (hs : s.size ≤ maxLen) (ht : Tab w) (hg : Glb w) :
    Calls Tryd.prog 6 #[.agg #[.bool ok, .int .i64 tt, .slice A caps.length c], .string s] w fun e w' => e = .returned (.bool true) ∧ Below w.heap.size w w' := by
  have htl := ht.lt
  have hgl := hg.lt
  unfold maxLen at hs
  go_enter Tryd.func6, Tryd.ntmps6
  go_wp2_with fail
  refine (works_any _ (ht.below ((Below.refl _ _).alloc (Nat.le_refl _) _) htl)).mono ?_
  rintro e w1 ⟨rfl, hb1⟩
  have hbw1 : Below w.heap.size w w1 := ((Below.refl _ _).alloc (Nat.le_refl _) _).trans (hb1.mono (by simp))
  have hz1 : w.heap.size < w1.heap.size := by have := hb1.size; simp at this; omega
  have bk1 := (Blk.new_ w 24 #[.bool ok, .int .i64 tt, .slice A caps.length c]).below hb1 (by simp)
  have hr1 := hr.below hbw1
  obtain ⟨⟨k0, k1, k2⟩, _⟩ := bk1.three
  clear hb1
  go_wp2_with fail
  refine (long_one w1 A c w1.heap.size ok tt caps (hr1.more (by omega)) hf rfl).mono ?_
  rintro e w2 ⟨b, rfl, hlong, rfl⟩
  have hbw2 : Below w.heap.size w (w1.alloc (.cells #[.bool ok, .int .i64 tt, .slice A caps.length c] 24)) := hbw1.alloc (by omega) _
  have ht2 := ht.below hbw2 htl
  cases b with
  | true =>
    go_wp2_with fail
    refine (works_any _ ht2).mono ?_
    rintro e w3 ⟨rfl, hb3⟩
    go_wp2
    go_ret
    exact ⟨rfl, hbw2.trans (hb3.mono (by simp; omega))⟩
  | false =>
    by_cases h6 : 6000 < s.size
    · go_wp2_with fail
      refine (works_any _ ht2).mono ?_
      rintro e w3 ⟨rfl, hb3⟩
      go_wp2
      go_ret
      exact ⟨rfl, hbw2.trans (hb3.mono (by simp; omega))⟩
    · have hg2 := hg.below hbw2 hgl
      have bk2 := bk1.alloc (.cells #[.bool ok, .int .i64 tt, .slice A caps.length c] 24)
      have hr2 := hr.below hbw2
      obtain ⟨W2, hW2⟩ : ∃ W2, w1.alloc (.cells #[.bool ok, .int .i64 tt, .slice A caps.length c] 24) = W2 := ⟨_, rfl⟩
      rw [hW2] at hbw2 hg2 bk2 hr2 ht2 ⊢
      have hz2 : w.heap.size < W2.heap.size := bk2.lt
      obtain ⟨⟨m0, m1, m2⟩, _⟩ := bk2.three
      clear k0 k1 k2 bk1 hr1 hlong hbw1 hz1
      have hs32 : s.size < 4294967281 := by omega
      have hshow := spanShow_any W2 ⟨⟨ok, tt, caps⟩, A, c⟩ (hr2.more (by omega)) hf ht2
      cases hm : mayB ⟨ok, tt, caps⟩ 4096
      · rw [hm] at hshow
        simp only [Bool.false_eq_true, if_false] at hshow
        have HM := Lib.hid hm
        clear hm
        go_wp2_with fail
        refine hshow.mono ?_
        rintro e w3 ⟨rfl, hb3⟩
        have bk3 := bk2.below hb3 bk2.lt
        have hbw3 := hbw2.trans (hb3.mono (by omega))
        have hr3 := hr.below hbw3
        have hl3 := hb3.size
        obtain ⟨⟨n0, n1, n2⟩, _⟩ := bk3.three
        clear hb3 hshow m0 m1 m2
        go_wp2_with fail
        refine (spanMay_at _ w.heap.size A c ok tt 4096 caps hr3 hbw3.size hf).mono ?_
        rintro e w4 ⟨he, hb4⟩
        rw [HM.out] at he
        subst he
        have HB4 := Lib.hid (hbw3.trans (hb4.mono hbw3.size))
        clear hb4 bk3 hbw3 hr3 hl3 n0 n1 n2 bk2 hbw2 hg2 hr2 ht2
        cases hp : parseS s.data.toList with
        | none =>
          go_wp2_with fail
          refine (parse_no w4 s hs32 (hg.below HB4.out hgl) hp).mono ?_
          rintro e w8 ⟨rfl, hb8⟩
          have HB8 := Lib.hid (Below.trans HB4.out (hb8.mono (Below.size HB4.out)))
          clear hb8
          go_wp2
          go_ret
          exact ⟨rfl, HB8.out.alloc HB8.out.size _⟩
        | some o' =>
          have HQ := Lib.hid (show_parse hp)
          have HPP := Lib.hid hp
          go_wp2_with fail
          refine (parse_yes w4 s hs32 (hg.below HB4.out hgl) hp).mono ?_
          rintro e w8 ⟨A8, c8, rfl, hr8, hb8⟩
          have HB8 := Lib.hid (Below.trans HB4.out (hb8.mono (Below.size HB4.out)))
          have HR8 := Lib.hid hr8
          clear hb8 hr8 hp
          go_wp2_with fail
          have bx8 := Blk.new_ w8 24 #[.bool o'.ok, .int .i64 o'.to, .slice A8 o'.caps.length c8]
          have HB8' := Lib.hid (HB8.out.alloc HB8.out.size (.cells #[.bool o'.ok, .int .i64 o'.to, .slice A8 o'.caps.length c8] 24))
          have HR8' := Lib.hid (HR8.out.alloc (Nat.le_refl _) (.cells #[.bool o'.ok, .int .i64 o'.to, .slice A8 o'.caps.length c8] 24))
          have hshow := spanShow_any _ ⟨o', A8, c8⟩ (HR8'.out.more (by simp)) (mayB_fits HQ.out.1) (ht.below HB8'.out htl)
          rw [HQ.out.1] at hshow
          simp only [if_true] at hshow
          refine hshow.mono ?_
          rintro e w9 ⟨rfl, hb9⟩
          have bx9 := bx8.below hb9 bx8.lt
          have HB9 := Lib.hid (HB8'.out.trans (hb9.mono HB8'.out.size))
          have HR9 := Lib.hid (HR8'.out.below (hb9.mono (by simp)))
          obtain ⟨⟨y0, y1, y2⟩, _⟩ := bx9.three
          have hst : (⟨(showOut o').toArray⟩ : ByteArray) = s := by rw [HQ.out.2, str_back]
          rw [hst]
          have hle9 : w8.heap.size ≤ w9.heap.size := by have := hb9.size; simp at this; omega
          clear hb9 hshow bx8 hst
          go_wp2_with fail
          refine (spanMay_at _ w8.heap.size A8 c8 o'.ok o'.to 4096 o'.caps HR9.out hle9 (mayB_fits HQ.out.1)).mono ?_
          rintro e w10 ⟨he, hb10⟩
          rw [show (⟨o'.ok, o'.to, o'.caps⟩ : Out) = o' from rfl, HQ.out.1] at he
          subst he
          have HB10 := Lib.hid (HB9.out.trans (hb10.mono HB9.out.size))
          clear hb10
          go_wp2
          go_ret
          exact ⟨rfl, HB10.out⟩
      · rw [hm] at hshow
        simp only [if_true] at hshow
        have HM := Lib.hid hm
        clear hm
        go_wp2_with fail
        refine hshow.mono ?_
        rintro e w3 ⟨rfl, hb3⟩
        have bk3 := bk2.below hb3 bk2.lt
        have hbw3 := hbw2.trans (hb3.mono (by omega))
        have hr3 := hr.below hbw3
        have hl3 := hb3.size
        obtain ⟨⟨n0, n1, n2⟩, _⟩ := bk3.three
        obtain ⟨T, hT⟩ : ∃ T : ByteArray, ⟨(showOut ⟨ok, tt, caps⟩).toArray⟩ = T := ⟨_, rfl⟩
        rw [hT]
        have hTp : parseS T.data.toList = some ⟨ok, tt, caps⟩ := by rw [← hT]; simpa using parse_show _ HM.out
        have hTs : T.size < 4294967281 := by rw [← hT]; exact show_len HM.out
        clear hb3 hshow m0 m1 m2 hT
        go_wp2_with fail
        refine (spanMay_at _ w.heap.size A c ok tt 4096 caps hr3 hbw3.size hf).mono ?_
        rintro e w4 ⟨he, hb4⟩
        rw [HM.out] at he
        subst he
        have bk4 := bk3.below hb4 bk3.lt
        have hbw4 := hbw3.trans (hb4.mono hbw3.size)
        have hl4 := hb4.size
        obtain ⟨⟨q0, q1, q2⟩, _⟩ := bk4.three
        clear hb4 bk3 hbw3 hr3 n0 n1 n2 bk2 hbw2 hg2 hr2 ht2
        go_wp2_with fail
        refine (parse_yes w4 T hTs (hg.below hbw4 hgl) hTp).mono ?_
        rintro e w5 ⟨A5, c5, rfl, hr5, hb5⟩
        have bk5 := bk4.below hb5 bk4.lt
        have hbw5 := hbw4.trans (hb5.mono hbw4.size)
        have hl5 := hb5.size
        have hz5 : w.heap.size < w5.heap.size := bk5.lt
        obtain ⟨⟨r0, r1, r2⟩, _⟩ := bk5.three
        have HBW5 := Lib.hid hbw5
        have HR5 := Lib.hid hr5
        have hc5 : caps.length ≤ maxLen := hf.2.1
        clear hb5 bk4 hbw4 q0 q1 q2 hTp hTs hr5 hbw5
        have HB6 := Lib.hid (HBW5.out.alloc HBW5.out.size (.cells #[.bool ok, .int .i64 tt, .slice A5 caps.length c5] 24))
        go_wp2_with fail
        refine (same_two _ w5.heap.size ok tt caps A5 A c5 c ?_ ?_ (by simp) hc5).mono ?_
        · exact HR5.out.alloc (Nat.le_refl _) _
        · exact (hr.below HB6.out).more (by omega)
        rintro e w6 ⟨rfl, hb6⟩
        have HB7 := Lib.hid (HB6.out.trans (hb6.mono HB6.out.size))
        clear hb6 bk5 r0 r1 r2
        cases hp : parseS s.data.toList with
        | none =>
          go_wp2_with fail
          refine (parse_no w6 s hs32 (hg.below HB7.out hgl) hp).mono ?_
          rintro e w8 ⟨rfl, hb8⟩
          have HB8 := Lib.hid (Below.trans HB7.out (hb8.mono (Below.size HB7.out)))
          clear hb8
          go_wp2
          go_ret
          exact ⟨rfl, HB8.out.alloc HB8.out.size _⟩
        | some o' =>
          have HQ := Lib.hid (show_parse hp)
          have HPP := Lib.hid hp
          go_wp2_with fail
          refine (parse_yes w6 s hs32 (hg.below HB7.out hgl) hp).mono ?_
          rintro e w8 ⟨A8, c8, rfl, hr8, hb8⟩
          have HB8 := Lib.hid (Below.trans HB7.out (hb8.mono (Below.size HB7.out)))
          have HR8 := Lib.hid hr8
          clear hb8 hr8 hp
          go_wp2_with fail
          have bx8 := Blk.new_ w8 24 #[.bool o'.ok, .int .i64 o'.to, .slice A8 o'.caps.length c8]
          have HB8' := Lib.hid (HB8.out.alloc HB8.out.size (.cells #[.bool o'.ok, .int .i64 o'.to, .slice A8 o'.caps.length c8] 24))
          have HR8' := Lib.hid (HR8.out.alloc (Nat.le_refl _) (.cells #[.bool o'.ok, .int .i64 o'.to, .slice A8 o'.caps.length c8] 24))
          have hshow := spanShow_any _ ⟨o', A8, c8⟩ (HR8'.out.more (by simp)) (mayB_fits HQ.out.1) (ht.below HB8'.out htl)
          rw [HQ.out.1] at hshow
          simp only [if_true] at hshow
          refine hshow.mono ?_
          rintro e w9 ⟨rfl, hb9⟩
          have bx9 := bx8.below hb9 bx8.lt
          have HB9 := Lib.hid (HB8'.out.trans (hb9.mono HB8'.out.size))
          have HR9 := Lib.hid (HR8'.out.below (hb9.mono (by simp)))
          obtain ⟨⟨y0, y1, y2⟩, _⟩ := bx9.three
          have hst : (⟨(showOut o').toArray⟩ : ByteArray) = s := by rw [HQ.out.2, str_back]
          rw [hst]
          have hle9 : w8.heap.size ≤ w9.heap.size := by have := hb9.size; simp at this; omega
          clear hb9 hshow bx8 hst
          go_wp2_with fail
          refine (spanMay_at _ w8.heap.size A8 c8 o'.ok o'.to 4096 o'.caps HR9.out hle9 (mayB_fits HQ.out.1)).mono ?_
          rintro e w10 ⟨he, hb10⟩
          rw [show (⟨o'.ok, o'.to, o'.caps⟩ : Out) = o' from rfl, HQ.out.1] at he
          subst he
          have HB10 := Lib.hid (HB9.out.trans (hb10.mono HB9.out.size))
          clear hb10
          go_wp2
          go_ret
          exact ⟨rfl, HB10.out⟩
end Go.Proofs.YtnmnbefbadhkgaaDoor
