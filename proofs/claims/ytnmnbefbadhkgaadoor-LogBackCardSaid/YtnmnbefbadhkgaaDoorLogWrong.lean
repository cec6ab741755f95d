/-
  WALKS: bonsailaw27.wrong, some.
-/
import Derived.Test.YtnmnbefbadhkgaaDoorLogDec
import Derived.Test.YtnmnbefbadhkgaaDoorLogEnc
namespace Go.Proofs.YtnmnbefbadhkgaaDoor
open Go Go.RowKit

def wrongS (s : List UInt8) : Int := if (readLog s).1 = [] then (readLog s).2 else 0
theorem wrong_any (w : World) (s : ByteArray) (hs : s.size ≤ maxLen) : Calls Tryd.prog 18 #[.string s] w fun e w' => e = .returned (.int .i64 (wrongS s.data.toList)) ∧ Below w.heap.size w w' := by
  go_enter Tryd.func18, Tryd.ntmps18
  go_wp2_with fail
  refine (decode_any w s hs).mono ?_
  rintro e w1 ⟨A, c, lv, rfl, hl, hits, h32, hb⟩
  have HL := Lib.hid hl
  have HB := Lib.hid hb
  obtain ⟨E, hE⟩ : ∃ E, ((readLog s.data.toList).2 : Int) = E := ⟨_, rfl⟩
  rw [hE]
  have HE := Lib.hid hE
  clear hl hits h32 hb hE
  by_cases h0 : lv.length = 0
  · have hW : wrongS s.data.toList = E := by
      unfold wrongS
      rw [if_pos (by rw [← HL.out, List.eq_nil_of_length_eq_zero h0]; rfl), HE.out]
    have HW := Lib.hid hW
    have h0' : ¬ (0 : Int) < (lv.length : Int) := by omega
    clear h0 hW
    go_wp2
    go_ret
    exact ⟨by rw [HW.out]; rfl, HB.out⟩
  · have hW : wrongS s.data.toList = 0 := by
      unfold wrongS
      rw [if_neg (by rw [← HL.out]; intro h; exact h0 (by simpa using h))]
    have HW := Lib.hid hW
    have h0' : (0 : Int) < (lv.length : Int) := by omega
    clear h0 hW
    go_wp2
    go_ret
    exact ⟨by rw [HW.out]; rfl, HB.out⟩

def someL : List Itm := [⟨true, Stp.zero⟩, ⟨false, ⟨2, 1, 300, [1, 0], 0⟩⟩]
theorem some27_any (w : World) : Calls Tryd.prog 34 #[] w fun e w' => ∃ (A : Option Addr) (lv : List ItmV), e = .returned (.slice A 2 2) ∧ lv.map ItmV.x = someL ∧ ItmsAt w' w'.heap.size A lv ∧ Below w.heap.size w w' := by
  go_enter Tryd.func34, Tryd.ntmps34
  go_wp2
  go_ret
  refine ⟨_, [⟨⟨true, Stp.zero⟩, none, 0⟩, ⟨⟨false, ⟨2, 1, 300, [1, 0], 0⟩⟩, some ⟨w.heap.size, 0, none⟩, 2⟩], rfl, rfl, ⟨?_, ?_⟩, ?_⟩
  · have h := reads_row (w.alloc (.cells #[.int .i64 1, .int .i64 0] 3)) 57 6 2 [.bool true, .int .u8 0, .int .u8 0, .int .i64 0, .slice none 0 0, .int .i64 0, .bool false, .int .u8 2, .int .u8 1, .int .i64 300, .slice (some ⟨w.heap.size, 0, none⟩) 2 2, .int .i64 0] rfl
    simp only [World.size_alloc] at h ⊢
    exact h
  · intro x hx
    simp only [List.mem_cons, List.mem_nil_iff, or_false] at hx
    rcases hx with rfl | rfl
    · exact ⟨⟨rfl, fun h => absurd h (by simp [Stp.zero])⟩, by simp [Stp.zero]⟩
    · refine ⟨?_, by simp [maxLen]⟩
      have h := (reads_row w 3 1 2 [.int .i64 1, .int .i64 0] rfl).alloc (by simp) (.cells #[.bool true, .int .u8 0, .int .u8 0, .int .i64 0, .slice none 0 0, .int .i64 0, .bool false, .int .u8 2, .int .u8 1, .int .i64 300, .slice (some ⟨w.heap.size, 0, none⟩) 2 2, .int .i64 0] 57)
      exact Reads.more h (by simp)
  · exact ((Below.refl _ _).alloc (Nat.le_refl _) _).alloc (by simp) _
end Go.Proofs.YtnmnbefbadhkgaaDoor
