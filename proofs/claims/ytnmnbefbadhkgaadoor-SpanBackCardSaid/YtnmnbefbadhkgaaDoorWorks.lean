/-
  WALK: the law's own 'works': the examples are as they are told.
-/
import Derived.Test.YtnmnbefbadhkgaaDoorWorksA
namespace Go.Proofs.YtnmnbefbadhkgaaDoor
open Go.RowKit

theorem show_some (w : World) (A : Option Addr) (c : Nat) (hr : Reads w w.heap.size 3 A 3 (capCells someO.caps)) (ht : Tab w) :
    Calls Tryd.prog 23 #[.agg #[.bool true, .int .i64 5, .slice A 3 c]] w fun e w' => e = .returned (.tuple #[.string ⟨#[109, 97, 116, 99, 104, 32, 53, 10, 110, 32, 48, 32, 53, 10, 109, 32, 49, 32, 50, 10, 109, 32, 50, 32, 50, 10]⟩, .int .i64 0]) ∧ Below w.heap.size w w' := by
  refine (spanShow_any w ⟨someO, A, c⟩ hr some_fits ht).mono fun e w' ⟨he, hb⟩ => ⟨he.trans ?_, hb⟩
  rw [if_pos some_may', some_text]
theorem may_some (w : World) (A : Option Addr) (c : Nat) (hr : Reads w w.heap.size 3 A 3 (capCells someO.caps)) :
    Calls Tryd.prog 13 #[.agg #[.bool true, .int .i64 5, .slice A 3 c], .int .i64 5] w fun e w' => e = .returned (.bool true) ∧ Below w.heap.size w w' := by
  refine (spanMay_any w ⟨someO, A, c⟩ 5 hr some_fits).mono fun e w' ⟨he, hb⟩ => ⟨he.trans ?_, hb⟩
  rw [some_may]
theorem may_cross (w : World) (A : Option Addr) (c : Nat) (hr : Reads w w.heap.size 3 A 2 (capCells crossO.caps)) :
    Calls Tryd.prog 13 #[.agg #[.bool true, .int .i64 5, .slice A 2 c], .int .i64 5] w fun e w' => e = .returned (.bool false) ∧ Below w.heap.size w w' := by
  refine (spanMay_any w ⟨crossO, A, c⟩ 5 hr cross_fits).mono fun e w' ⟨he, hb⟩ => ⟨he.trans ?_, hb⟩
  rw [cross_not]
theorem texts_some (w : World) (A : Option Addr) (c : Nat) (hr : Reads w w.heap.size 3 A 3 (capCells someO.caps)) :
    Calls Tryd.prog 31 #[.agg #[.bool true, .int .i64 5, .slice A 3 c], .string ⟨#[97, 98, 99, 100, 101]⟩, .string ⟨#[109]⟩] w fun e w' => TextsSays w [⟨#[98]⟩, ⟨#[]⟩] e w' := by
  have h := texts_ok w A c 5 someO.caps ⟨#[97, 98, 99, 100, 101]⟩ ⟨#[109]⟩ hr some_fits (by unfold maxLen; decide) ((good_iff someO 5 rfl).1 some_may)
  rw [show textsOf ⟨true, 5, someO.caps⟩ ⟨#[97, 98, 99, 100, 101]⟩ ⟨#[109]⟩ = [⟨#[98]⟩, ⟨#[]⟩] from some_texts] at h
  exact h

def SomeSays (w : World) (e : Ending) (w' : World) : Prop := ∃ g, e = .returned (.agg #[.bool true, .int .i64 5, .slice (some ⟨g, 0, none⟩) 3 3]) ∧ Reads w' w'.heap.size 3 (some ⟨g, 0, none⟩) 3 (capCells someO.caps) ∧ Below w.heap.size w w'
theorem some_says (w : World) : Calls Tryd.prog 29 #[] w (SomeSays w) := (some_any w).mono fun _ _ h => ⟨_, h⟩

set_option maxRecDepth 100000 in
set_option maxHeartbeats 2000000 in
theorem works_any (w : World) (ht : Tab w) : Calls Tryd.prog 8 #[] w fun e w' => e = .returned (.bool true) ∧ Below w.heap.size w w' := by
  have htl := ht.lt
  go_enter Tryd.func8, Tryd.ntmps8
  go_wp2_with fail
  refine (some_says w).mono ?_
  rintro e w1 ⟨g1, rfl, hr1, hb1⟩
  have ht1 := ht.below hb1 htl
  have hs1 := hb1.size
  go_wp2_with fail
  refine (show_some w1 _ _ hr1 ht1).mono ?_
  rintro e w2 ⟨rfl, hb2⟩
  have hbw2 := hb1.trans (hb2.mono hs1)
  have hs2 := hbw2.size
  clear hr1 hb1 hb2 ht1 hs1
  have cr : Reads (w2.alloc (.cells #[.string ⟨#[109]⟩, .int .i64 0, .int .i64 2, .string ⟨#[109]⟩, .int .i64 1, .int .i64 3] 45)) (w2.heap.size + 1) 3 (some ⟨w2.heap.size, 0, none⟩) 2 (capCells crossO.caps) := by
    have h := (Owns.new_ w2 45 3 2 (base := 0) #[.string ⟨#[109]⟩, .int .i64 0, .int .i64 2, .string ⟨#[109]⟩, .int .i64 1, .int .i64 3] rfl (by unfold maxLen; omega) (Nat.zero_le _)).rd
    simpa [crossO, capCells, Cap.cells] using h
  have cr' := cr.alloc (by simp) (.cells #[.bool true, .int .i64 5, .slice (some ⟨w2.heap.size, 0, none⟩) 2 2] 24)
  have bx := Blk.new_ (w2.alloc (.cells #[.string ⟨#[109]⟩, .int .i64 0, .int .i64 2, .string ⟨#[109]⟩, .int .i64 1, .int .i64 3] 45)) 24 #[.bool true, .int .i64 5, .slice (some ⟨w2.heap.size, 0, none⟩) 2 2]
  rw [World.size_alloc] at bx
  clear cr
  go_wp2_with fail
  refine (some_says _).mono ?_
  rintro e w3 ⟨g3, rfl, hr3, hb3⟩
  have cr3 := cr'.below (hb3.mono (by simp))
  have bx3 := bx.below hb3 (by simp)
  have hbw3 : Below w.heap.size w w3 := ((hbw2.alloc hs2 _).alloc (by simp; omega) _).trans (hb3.mono (by simp; omega))
  have hs3 : w2.heap.size + 2 ≤ w3.heap.size := by have := hb3.size; simp at this; omega
  clear cr' bx hb3
  go_wp2_with fail
  refine (may_some _ _ _ hr3).mono ?_
  rintro e w4 ⟨rfl, hb4⟩
  have cr4 := cr3.below (hb4.mono (by omega))
  have bx4 := bx3.below hb4 bx3.lt
  have hbw4 := hbw3.trans (hb4.mono (by omega))
  have hs4 := hb4.size
  obtain ⟨⟨y0, y1, y2⟩, _⟩ := bx4.three
  clear hr3 cr3 bx3 hb4 hbw3
  go_wp2_with fail
  refine (may_cross _ _ _ (cr4.more (by omega))).mono ?_
  rintro e w5 ⟨rfl, hb5⟩
  have hbw5 := hbw4.trans (hb5.mono (by omega))
  have hs5 := hb5.size
  clear hb5 hbw4 cr4 bx4 y0 y1 y2
  go_wp2_with fail
  refine (some_says _).mono ?_
  rintro e w6 ⟨g6, rfl, hr6, hb6⟩
  have hbw6 := hbw5.trans (hb6.mono (by omega))
  have hs6 := hb6.size
  clear hb6 hbw5
  go_wp2_with fail
  refine (texts_some _ _ _ hr6).mono ?_
  rintro e w7 ⟨A7, cap7, rfl, hown7, hb7⟩
  have hbw7 := hbw6.trans (hb7.mono (by omega))
  have hs7 := hb7.size
  clear hb7 hbw6 hr6
  have r7 := hown7.rd.alloc (Nat.le_refl _) (.cells #[.string ⟨#[98]⟩, .string ⟨#[]⟩] 9)
  have q7 := (Owns.new_ w7 9 1 2 (base := 0) #[.string ⟨#[98]⟩, .string ⟨#[]⟩] rfl (by unfold maxLen; omega) (Nat.zero_le _)).rd
  rw [World.size_alloc] at q7
  clear hown7
  go_wp2_with fail
  refine (textsEq_any _ (w7.heap.size + 1) A7 _ cap7 2 [⟨#[98]⟩, ⟨#[]⟩] [⟨#[98]⟩, ⟨#[]⟩] (r7.more (by omega)) q7 (by unfold maxLen; decide) (by unfold maxLen; decide) rfl).mono ?_
  rintro e w8 ⟨rfl, hb8⟩
  go_wp2
  go_ret
  exact ⟨rfl, (hbw7.alloc (by omega) _).trans (hb8.mono (by simp; omega))⟩
end Go.Proofs.YtnmnbefbadhkgaaDoor
