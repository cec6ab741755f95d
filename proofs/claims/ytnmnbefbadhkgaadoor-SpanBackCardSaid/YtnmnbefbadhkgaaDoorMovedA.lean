/-
  WALK: the law SpanMoved, case by case.
-/
import Derived.Test.YtnmnbefbadhkgaaDoorWorks
import Derived.Test.YtnmnbefbadhkgaaDoorQuiet
namespace Go.Proofs.YtnmnbefbadhkgaaDoor
open Go.RowKit

theorem long_one (w : World) (A : Option Addr) (c g : Nat) (ok : Bool) (tt : Int) (caps : List Cap) (hr : Reads w w.heap.size 3 A caps.length (capCells caps)) (hf : Out.fits ⟨ok, tt, caps⟩) (hg : g = w.heap.size) :
    Calls Tryd.prog 9 #[.slice (some ⟨g, 0, none⟩) 1 1] (w.alloc (.cells #[.bool ok, .int .i64 tt, .slice A caps.length c] 24)) fun e w' => ∃ b, e = .returned (.bool b) ∧ (b = false → caps.length < 900) ∧ w' = w.alloc (.cells #[.bool ok, .int .i64 tt, .slice A caps.length c] 24) := by
  subst hg
  have h := (Owns.new_ w 24 3 1 (base := 0) #[.bool ok, .int .i64 tt, .slice A caps.length c] rfl (by unfold maxLen; omega) (Nat.zero_le _)).rd
  refine (long_any _ _ _ 1 [⟨⟨ok, tt, caps⟩, A, c⟩] h (fun x hx => ?_) (by unfold maxLen; simp)).mono ?_
  · simp only [List.mem_cons, List.mem_nil_iff, or_false] at hx
    subst hx
    exact ⟨hf, (hr.alloc (Nat.le_refl _) _).more (by simp)⟩
  · rintro e w' ⟨b, he, hb, hw⟩
    exact ⟨b, he, fun h => hb h ⟨⟨ok, tt, caps⟩, A, c⟩ (by simp), hw.symm⟩

theorem same_fail (w : World) (B : Nat) (c c' : Nat) (A' : Option Addr) (_hr : Reads w B 3 A' 0 []) : Calls Tryd.prog 11 #[.agg #[.bool false, .int .i64 0, .slice none 0 c], .agg #[.bool false, .int .i64 0, .slice A' 0 c']] w fun e w' => e = .returned (.bool true) ∧ Below w.heap.size w w' :=
  same_any w ⟨⟨false, 0, []⟩, none, c⟩ ⟨⟨false, 0, []⟩, A', c'⟩ Reads.none_ ⟨by simp [capCells], fun h => absurd h (by simp)⟩ (Nat.zero_le _) (Nat.zero_le _)

/-- What holds within the law's last statements: the boxes of the outcome and of what it was moved to. -/
structure MInv (w : World) (gx : Nat) (v0 v1 v2 u0 u1 u2 : Value) (w' : World) : Prop where
  o : Blk w' w.heap.size 24 #[v0, v1, v2]
  x : Blk w' gx 24 #[u0, u1, u2]
  bel : Below w.heap.size w w'
theorem MInv.below {w : World} {gx : Nat} {v0 v1 v2 u0 u1 u2 : Value} {w1 w2 : World} (h : MInv w gx v0 v1 v2 u0 u1 u2 w1) (hb : Below w1.heap.size w1 w2) : MInv w gx v0 v1 v2 u0 u1 u2 w2 :=
  ⟨h.o.below hb h.o.lt, h.x.below hb h.x.lt, h.bel.trans (hb.mono h.bel.size)⟩
theorem MInv.cells {w : World} {gx : Nat} {v0 v1 v2 u0 u1 u2 : Value} {w1 : World} (h : MInv w gx v0 v1 v2 u0 u1 u2 w1) :
    w1.cell? ⟨w.heap.size, 0, none⟩ = some v0 ∧ w1.cell? ⟨w.heap.size, 1, none⟩ = some v1 ∧ w1.cell? ⟨w.heap.size, 2, none⟩ = some v2 ∧ w1.cell? ⟨gx, 0, none⟩ = some u0 ∧ w1.cell? ⟨gx, 1, none⟩ = some u1 ∧ w1.cell? ⟨gx, 2, none⟩ = some u2 :=
  ⟨h.o.cell 0, h.o.cell 1, h.o.cell 2, h.x.cell 0, h.x.cell 1, h.x.cell 2⟩

set_option maxRecDepth 100000 in
set_option maxHeartbeats 2000000 in
theorem moved_nomay (w : World) (A : Option Addr) (c : Nat) (ok : Bool) (tt by_ : Int) (caps : List Cap) (hr : Reads w w.heap.size 3 A caps.length (capCells caps)) (hf : Out.fits ⟨ok, tt, caps⟩) (ht : Tab w) (hm : mayB ⟨ok, tt, caps⟩ 4096 = false) :
    Calls Tryd.prog 3 #[.agg #[.bool ok, .int .i64 tt, .slice A caps.length c], .int .i64 by_] w fun e w' => e = .returned (.bool true) ∧ Below w.heap.size w w' := by
  have htl := ht.lt
  have HM := Lib.hid hm
  clear hm
  go_enter Tryd.func3, Tryd.ntmps3
  go_wp2_with fail
  refine (works_any _ (ht.below ((Below.refl _ _).alloc (Nat.le_refl _) _) htl)).mono ?_
  rintro e w1 ⟨rfl, hb1⟩
  have hbw1 : Below w.heap.size w w1 := ((Below.refl _ _).alloc (Nat.le_refl _) _).trans (hb1.mono (by simp))
  have hz1 : w.heap.size < w1.heap.size := by have := hb1.size; simp at this; omega
  have bk1 := (Blk.new_ w 24 #[.bool ok, .int .i64 tt, .slice A caps.length c]).below hb1 (by simp)
  have hr1 := hr.below hbw1
  obtain ⟨⟨k0, k1, k2⟩, _⟩ := bk1.three
  clear hb1
  go_wp2_with fail
  refine (long_one w1 A c w1.heap.size ok tt caps (hr1.more (by omega)) hf rfl).mono ?_
  rintro e w2 ⟨b, rfl, hlong, rfl⟩
  have hbw2 : Below w.heap.size w (w1.alloc (.cells #[.bool ok, .int .i64 tt, .slice A caps.length c] 24)) := hbw1.alloc (by omega) _
  have ht2 := ht.below hbw2 htl
  cases b with
  | true =>
    go_wp2_with fail
    refine (works_any _ ht2).mono ?_
    rintro e w3 ⟨rfl, hb3⟩
    go_wp2
    go_ret
    exact ⟨rfl, hbw2.trans (hb3.mono (by simp; omega))⟩
  | false =>
    have hr2 := hr1.alloc (by omega) (.cells #[.bool ok, .int .i64 tt, .slice A caps.length c] 24)
    have bk2 := bk1.alloc (.cells #[.bool ok, .int .i64 tt, .slice A caps.length c] 24)
    go_wp2_with fail
    refine (shift_nomay _ A c ok tt by_ caps (hr2.more (by simp; omega)) hf HM.out).mono ?_
    rintro e w3 ⟨rfl, hb3⟩
    have bk3 := bk2.below hb3 bk2.lt
    have hbw3 := hbw2.trans (hb3.mono (by simp; omega))
    have hr3 := hr2.below (hb3.mono (by simp; omega))
    have hz3 : w.heap.size < w3.heap.size := by have := hb3.size; simp at this; omega
    obtain ⟨⟨m0, m1, m2⟩, _⟩ := bk3.three
    clear hb3 k0 k1 k2 bk1 bk2 hr1 hr2 hlong hbw1 hbw2 ht2
    unfold failV
    go_wp2_with fail
    have hI : MInv w w3.heap.size (.bool ok) (.int .i64 tt) (.slice A caps.length c) (.bool false) (.int .i64 0) (.slice none 0 0) (w3.alloc (.cells #[.bool false, .int .i64 0, .slice none 0 0] 24)) :=
      ⟨bk3.alloc _, Blk.new_ _ _ _, hbw3.alloc (by omega) _⟩
    have hI' : MInv w w3.heap.size (.bool ok) (.int .i64 tt) (.slice A caps.length c) (.bool false) (.int .i64 0) (.slice none 0 0) (w3.alloc (.cells #[.bool false, .int .i64 0, .slice none 0 0] 24)).drew := hI.below (Below.refl _ _).drew
    clear m0 m1 m2
    refine region_class (MInv w w3.heap.size (.bool ok) (.int .i64 tt) (.slice A caps.length c) (.bool false) (.int .i64 0) (.slice none 0 0)) (by kernel_rfl) (by kernel_rfl) hI' ?_
    repeat (first
      | (refine q_skip (by rfl) ?_; (simp only [Act.put, List.setIfInBounds_toArray, List.set_cons_zero, List.set_cons_succ]))
      | (refine q_step (by rfl) ?_
         apply Exists.intro
         refine And.intro (fun w4 hC => ?_) ?_
         (focus (obtain ⟨m0, m1, m2, x0, x1, x2⟩ := hC.cells; go_simp; first | (with_reducible rfl) | (go_at_call 12; exact q_call (fail_any _) fun e w' ⟨he, hb⟩ => ⟨he, hC.below hb⟩) | (go_at_call 11; exact q_call (same_fail _ 0 0 0 none Reads.none_) fun e w' ⟨he, hb⟩ => ⟨he, hC.below hb⟩) | (go_at_call 13; exact q_call (spanMay_at _ w.heap.size A c ok tt 4096 caps (hr.below hC.bel) hC.bel.size hf) fun e w' ⟨he, hb⟩ => ⟨by rw [HM.out] at he; exact he, hC.below hb⟩)))
         simp only [Act.put, List.setIfInBounds_toArray, List.set_cons_zero, List.set_cons_succ]))
    refine wpQuiet_nil ?_
    intro w4 hC
    go_wp2
    go_ret
    exact ⟨rfl, hC.bel⟩
end Go.Proofs.YtnmnbefbadhkgaaDoor
