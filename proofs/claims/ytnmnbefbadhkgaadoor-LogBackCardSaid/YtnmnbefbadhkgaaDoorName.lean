/-
  WALKS over bonsai/name: Letter, digit, Take, May: each returns what the plain Lean function of the same name says, and changes nothing.
-/
import Derived.Test.YtnmnbefbadhkgaaDoorProg
import Derived.WalkKit
import Derived.WalkSpells
import Derived.WalkLawsBesides
import Derived.BigQuiet
import Derived.Lib.Hide
import Derived.Deep.QuietTactic
namespace Go.Proofs.YtnmnbefbadhkgaaDoor
open Go.RowKit

def letterB (n : Int) : Bool := n == 95 || (decide (97 ≤ bits .or .u8 n 32) && decide (bits .or .u8 n 32 ≤ 122))
def digitB (n : Int) : Bool := decide (IntKind.u8.wrap (n - 48) < 10)

theorem digit_any (n : Int) (w : World) : Calls Tryd.prog 62 #[.int .u8 n] w fun e w' => e = .returned (.bool (digitB n)) ∧ w = w' := by
  go_enter Tryd.func62, Tryd.ntmps62
  go_wp2
  go_ret
  exact ⟨rfl, rfl⟩

theorem ret_bool {a b : Bool} (h : a = b) : Ending.returned (.bool a) = .returned (.bool b) := by rw [h]

theorem ret_str {a b : ByteArray} (h : a = b) : Ending.returned (.string a) = .returned (.string b) := by rw [h]

theorem letter_any (n : Int) (w : World) : Calls Tryd.prog 61 #[.int .u8 n] w fun e w' => e = .returned (.bool (letterB n)) ∧ w = w' := by
  go_enter Tryd.func61, Tryd.ntmps61
  go_wp2
  all_goals (go_ret; refine ⟨ret_bool ?_, rfl⟩; unfold letterB)
  · simp [*]
  · simp [*]
  · simp [*]; omega

/-- how many bytes at the head of a text may be in a name, from the i-th on -/
def takeN : Nat → List UInt8 → Nat
  | _, [] => 0
  | i, b :: l => if letterB b.toNat || (decide (0 < i) && digitB b.toNat) then takeN (i + 1) l + 1 else 0

set_option maxHeartbeats 400000 in
theorem take_any (s : ByteArray) (w : World) (hs : s.size ≤ maxLen) :
    Calls Tryd.prog 42 #[.string s] w fun e w' => e = .returned (.string (s.extract 0 (takeN 0 s.data.toList))) ∧ w = w' := by
  unfold maxLen at hs
  go_enter Tryd.func42, Tryd.ntmps42
  go_wp2
  go_loop [3] (fun i => ∃ k : Nat, k ≤ s.size ∧ i = .int .i64 k ∧ takeN 0 s.data.toList = k + takeN k (s.data.toList.drop k)) (fun i => s.size - (intOf i).toNat)
  case atStart => exact ⟨0, Nat.zero_le _, rfl, by simp⟩
  case round =>
    obtain ⟨k, hk, rfl, ht⟩ := hrel
    by_cases hlt : k < s.size
    · have hd : s.data.toList.drop k = s[k] :: s.data.toList.drop (k + 1) := by
        rw [List.drop_eq_getElem_cons (by simpa using hlt)]; rfl
      rw [hd] at ht
      simp only [takeN] at ht
      have HT := Lib.hid ht
      clear ht hd
      go_wp2_with (first | (go_at_call 61; refine (letter_any _ _).mono ?_; rintro e w' ⟨rfl, rfl⟩) | (go_at_call 62; refine (digit_any _ _).mono ?_; rintro e w' ⟨rfl, rfl⟩))
      · go_round
        case rel => exact ⟨k + 1, by omega, by go_num, by have := HT.out; rw [if_pos (by simp [*])] at this; omega⟩
        case measure => simp [intOf]; omega
      · go_round
        case rel => exact ⟨k + 1, by omega, by go_num, by have := HT.out; rw [if_pos (by simp [*])] at this; omega⟩
        case measure => simp [intOf]; omega
      · go_ret
        exact ⟨ret_str (by rw [HT.out, if_neg (by simp [*])]; rfl), rfl⟩
      · go_ret
        exact ⟨ret_str (by rw [HT.out, if_neg (by simp [*])]; rfl), rfl⟩
    · have hks : k = s.size := by omega
      have ht' : takeN 0 s.data.toList = k := by
        rw [ht, List.drop_eq_nil_of_le (by simp; omega)]; rfl
      have HT := Lib.hid ht'
      clear ht ht'
      have HK := Lib.hid hks
      clear hks
      go_wp2
      go_ret
      exact ⟨ret_str (by rw [HT.out]), rfl⟩

theorem takeN_le (i : Nat) (l : List UInt8) : takeN i l ≤ l.length := by
  induction l generalizing i with
  | nil => simp [takeN]
  | cons b l ih => simp only [takeN]; split <;> simp <;> exact ih _

/-- a text is a name -/
def nameMay (l : List UInt8) : Bool := !l.isEmpty && (decide (l.length ≤ 32) && decide (takeN 0 l = l.length))

theorem may_any (s : ByteArray) (w : World) (hs : s.size ≤ maxLen) :
    Calls Tryd.prog 22 #[.string s] w fun e w' => e = .returned (.bool (nameMay s.data.toList)) ∧ w = w' := by
  go_enter Tryd.func22, Tryd.ntmps22
  go_wp2_with (go_at_call 42; refine (take_any _ _ hs).mono ?_; rintro e w' ⟨rfl, rfl⟩)
  all_goals (go_ret; refine ⟨ret_bool ?_, rfl⟩; unfold nameMay)
  all_goals have e1 := ByteArray.toList_eq s
  all_goals have e2 : s.data.toList.length = s.size := by simp
  all_goals have e3 := takeN_le 0 s.data.toList
  · rw [← e1]; simp [*]
  · rw [e1, e2, Bool.eq_iff_iff]; simp; omega
  · rw [e2, Bool.eq_iff_iff]; simp; omega

end Go.Proofs.YtnmnbefbadhkgaaDoor
