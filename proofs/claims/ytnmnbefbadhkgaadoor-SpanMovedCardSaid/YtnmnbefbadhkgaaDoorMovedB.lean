/-
  WALK: the law SpanMoved, case by case.
-/
import Derived.Test.YtnmnbefbadhkgaaDoorMovedA
namespace Go.Proofs.YtnmnbefbadhkgaaDoor
open Go.RowKit

set_option maxRecDepth 100000 in
set_option maxHeartbeats 2000000 in
theorem moved_far (w : World) (A : Option Addr) (c : Nat) (tt by_ : Int) (caps : List Cap) (hr : Reads w w.heap.size 3 A caps.length (capCells caps)) (hf : Out.fits ⟨true, tt, caps⟩) (ht : Tab w) (hm : Good ⟨true, tt, caps⟩ 4096)
    (hfar : by_ < -(leastOf tt caps) ∨ 4096 < tt + by_) :
    Calls Tryd.prog 3 #[.agg #[.bool true, .int .i64 tt, .slice A caps.length c], .int .i64 by_] w fun e w' => e = .returned (.bool true) ∧ Below w.heap.size w w' := by
  have hby : (by_ != 0) = true := by
    have h1 := hm.least.1
    have h2 := hm.t1
    dsimp only at h1 h2
    rw [bne_iff_ne]
    omega
  have htl := ht.lt
  have HM := Lib.hid ((good_iff _ _ rfl).2 hm)
  have HF := Lib.hid hfar
  clear hfar
  go_enter Tryd.func3, Tryd.ntmps3
  go_wp2_with fail
  refine (works_any _ (ht.below ((Below.refl _ _).alloc (Nat.le_refl _) _) htl)).mono ?_
  rintro e w1 ⟨rfl, hb1⟩
  have hbw1 : Below w.heap.size w w1 := ((Below.refl _ _).alloc (Nat.le_refl _) _).trans (hb1.mono (by simp))
  have hz1 : w.heap.size < w1.heap.size := by have := hb1.size; simp at this; omega
  have bk1 := (Blk.new_ w 24 #[.bool true, .int .i64 tt, .slice A caps.length c]).below hb1 (by simp)
  have hr1 := hr.below hbw1
  obtain ⟨⟨k0, k1, k2⟩, _⟩ := bk1.three
  clear hb1
  go_wp2_with fail
  refine (long_one w1 A c w1.heap.size true tt caps (hr1.more (by omega)) hf rfl).mono ?_
  rintro e w2 ⟨b, rfl, hlong, rfl⟩
  have hbw2 : Below w.heap.size w (w1.alloc (.cells #[.bool true, .int .i64 tt, .slice A caps.length c] 24)) := hbw1.alloc (by omega) _
  have ht2 := ht.below hbw2 htl
  cases b with
  | true =>
    go_wp2_with fail
    refine (works_any _ ht2).mono ?_
    rintro e w3 ⟨rfl, hb3⟩
    go_wp2
    go_ret
    exact ⟨rfl, hbw2.trans (hb3.mono (by simp; omega))⟩
  | false =>
    have hr2 := hr1.alloc (by omega) (.cells #[.bool true, .int .i64 tt, .slice A caps.length c] 24)
    have bk2 := bk1.alloc (.cells #[.bool true, .int .i64 tt, .slice A caps.length c] 24)
    go_wp2_with fail
    refine (shift_far _ A c tt by_ caps (hr2.more (by simp; omega)) hf hm HF.out).mono ?_
    rintro e w3 ⟨rfl, hb3⟩
    have bk3 := bk2.below hb3 bk2.lt
    have hbw3 := hbw2.trans (hb3.mono (by simp; omega))
    have hr3 := hr2.below (hb3.mono (by simp; omega))
    have hz3 : w.heap.size < w3.heap.size := by have := hb3.size; simp at this; omega
    obtain ⟨⟨m0, m1, m2⟩, _⟩ := bk3.three
    clear hb3 k0 k1 k2 bk1 bk2 hr1 hr2 hlong hbw1 hbw2 ht2
    unfold failV
    go_wp2_with fail
    have hI : MInv w w3.heap.size (.bool true) (.int .i64 tt) (.slice A caps.length c) (.bool false) (.int .i64 0) (.slice none 0 0) (w3.alloc (.cells #[.bool false, .int .i64 0, .slice none 0 0] 24)) :=
      ⟨bk3.alloc _, Blk.new_ _ _ _, hbw3.alloc (by omega) _⟩
    have hI' : MInv w w3.heap.size (.bool true) (.int .i64 tt) (.slice A caps.length c) (.bool false) (.int .i64 0) (.slice none 0 0) (w3.alloc (.cells #[.bool false, .int .i64 0, .slice none 0 0] 24)).drew := hI.below (Below.refl _ _).drew
    clear m0 m1 m2
    refine region_class (MInv w w3.heap.size (.bool true) (.int .i64 tt) (.slice A caps.length c) (.bool false) (.int .i64 0) (.slice none 0 0)) (by kernel_rfl) (by kernel_rfl) hI' ?_
    repeat (first
      | (refine q_skip (by rfl) ?_; (simp only [Act.put, List.setIfInBounds_toArray, List.set_cons_zero, List.set_cons_succ]))
      | (refine q_step (by rfl) ?_
         apply Exists.intro
         refine And.intro (fun w4 hC => ?_) ?_
         (focus (obtain ⟨m0, m1, m2, x0, x1, x2⟩ := hC.cells; go_simp; first | (with_reducible rfl) | (go_at_call 12; exact q_call (fail_any _) fun e w' ⟨he, hb⟩ => ⟨he, hC.below hb⟩) | (go_at_call 11; exact q_call (same_fail _ 0 0 0 none Reads.none_) fun e w' ⟨he, hb⟩ => ⟨he, hC.below hb⟩) | (go_at_call 13; exact q_call (spanMay_at _ w.heap.size A c true tt 4096 caps (hr.below hC.bel) hC.bel.size hf) fun e w' ⟨he, hb⟩ => ⟨by rw [HM.out] at he; exact he, hC.below hb⟩)))
         simp only [Act.put, List.setIfInBounds_toArray, List.set_cons_zero, List.set_cons_succ]))
    refine wpQuiet_nil ?_
    intro w4 hC
    go_wp2
    go_ret
    exact ⟨rfl, hC.bel⟩

set_option maxRecDepth 100000 in
set_option maxHeartbeats 2000000 in
theorem moved_fail (w : World) (A : Option Addr) (c : Nat) (by_ : Int) (hr : Reads w w.heap.size 3 A 0 (capCells [])) (ht : Tab w) :
    Calls Tryd.prog 3 #[.agg #[.bool false, .int .i64 0, .slice A 0 c], .int .i64 by_] w fun e w' => e = .returned (.bool true) ∧ Below w.heap.size w w' := by
  have hf : Out.fits ⟨false, 0, []⟩ := ⟨⟨by decide, by decide⟩, Nat.zero_le _, by simp⟩
  have htl := ht.lt
  go_enter Tryd.func3, Tryd.ntmps3
  go_wp2_with fail
  refine (works_any _ (ht.below ((Below.refl _ _).alloc (Nat.le_refl _) _) htl)).mono ?_
  rintro e w1 ⟨rfl, hb1⟩
  have hbw1 : Below w.heap.size w w1 := ((Below.refl _ _).alloc (Nat.le_refl _) _).trans (hb1.mono (by simp))
  have hz1 : w.heap.size < w1.heap.size := by have := hb1.size; simp at this; omega
  have bk1 := (Blk.new_ w 24 #[.bool false, .int .i64 0, .slice A 0 c]).below hb1 (by simp)
  have hr1 := hr.below hbw1
  obtain ⟨⟨k0, k1, k2⟩, _⟩ := bk1.three
  clear hb1
  go_wp2_with fail
  refine (long_one w1 A c w1.heap.size false 0 [] (hr1.more (by omega)) hf rfl).mono ?_
  rintro e w2 ⟨b, rfl, hlong, rfl⟩
  have hbw2 : Below w.heap.size w (w1.alloc (.cells #[.bool false, .int .i64 0, .slice A 0 c] 24)) := hbw1.alloc (by omega) _
  have ht2 := ht.below hbw2 htl
  cases b with
  | true =>
    go_wp2_with fail
    refine (works_any _ ht2).mono ?_
    rintro e w3 ⟨rfl, hb3⟩
    go_wp2
    go_ret
    exact ⟨rfl, hbw2.trans (hb3.mono (by simp; omega))⟩
  | false =>
    have hr2 := hr1.alloc (by omega) (.cells #[.bool false, .int .i64 0, .slice A 0 c] 24)
    have bk2 := bk1.alloc (.cells #[.bool false, .int .i64 0, .slice A 0 c] 24)
    go_wp2_with fail
    refine (shift_fail _ A c 0 by_ [] (hr2.more (by simp; omega)) hf (by decide +kernel)).mono ?_
    rintro e w3 ⟨rfl, hb3⟩
    have bk3 := bk2.below hb3 bk2.lt
    have hbw3 := hbw2.trans (hb3.mono (by simp; omega))
    have hr3 := hr2.below (hb3.mono (by simp; omega))
    have hz3 : w.heap.size < w3.heap.size := by have := hb3.size; simp at this; omega
    obtain ⟨⟨m0, m1, m2⟩, _⟩ := bk3.three
    clear hb3 k0 k1 k2 bk1 bk2 hr1 hr2 hlong hbw1 hbw2 ht2
    unfold failV
    go_wp2_with fail
    refine (same_fail _ w.heap.size 0 c A (hr3.alloc (by omega) _)).mono ?_
    rintro e w4 ⟨rfl, hb4⟩
    go_wp2
    go_ret
    exact ⟨rfl, (hbw3.alloc (by omega) _).trans (hb4.mono (by simp; omega))⟩
end Go.Proofs.YtnmnbefbadhkgaaDoor
