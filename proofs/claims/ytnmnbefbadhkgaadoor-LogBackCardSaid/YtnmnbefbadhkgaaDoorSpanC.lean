/-
  WALKS: slices.Equal of captures, span.Same, Fail.
-/
import Derived.Test.YtnmnbefbadhkgaaDoorSpanB
namespace Go.Proofs.YtnmnbefbadhkgaaDoor
open Go.RowKit

def capEq (a b : Cap) : Bool := a.name.toList == b.name.toList && (a.fr == b.fr && a.to == b.to)
def capsEq : List Cap → List Cap → Bool
  | [], [] => true
  | a :: l, b :: m => capEq a b && capsEq l m
  | _, _ => false

theorem capEq_iff (a b : Cap) : capEq a b = true ↔ a = b := by
  obtain ⟨an, af, at'⟩ := a
  obtain ⟨bn, bf, bt⟩ := b
  simp only [capEq, Bool.and_eq_true, beq_iff_eq, Cap.mk.injEq, ByteArray.toList_eq]
  constructor
  · rintro ⟨h1, h2, h3⟩
    exact ⟨by cases an; cases bn; simp only [ByteArray.mk.injEq]; exact Array.ext' h1, h2, h3⟩
  · rintro ⟨rfl, rfl, rfl⟩; exact ⟨rfl, rfl, rfl⟩
theorem capsEq_iff : ∀ (a b : List Cap), capsEq a b = true ↔ a = b
  | [], [] => by simp [capsEq]
  | [], _ :: _ => by simp [capsEq]
  | _ :: _, [] => by simp [capsEq]
  | a :: l, b :: m => by simp [capsEq, capEq_iff, capsEq_iff l m]
theorem capsEq_length : ∀ (a b : List Cap), a.length ≠ b.length → capsEq a b = false := by
  intro a b h
  cases e : capsEq a b
  · rfl
  · exact absurd (congrArg List.length ((capsEq_iff a b).1 e)) h

theorem run_neq_cap (w : World) (a b : Cap) :
    (binOp .neq 45 (.agg #[.string a.name, .int .i64 a.fr, .int .i64 a.to]) (.agg #[.string b.name, .int .i64 b.fr, .int .i64 b.to])).run Tryd.prog w = .ok (.bool (!capEq a b)) w := by
  unfold capEq
  simp [go_sem]
  by_cases h1 : a.name.toList = b.name.toList <;> by_cases h2 : a.fr = b.fr <;> by_cases h3 : a.to = b.to <;> simp [h1, h2, h3]

theorem drop_cons {α : Type} {l : List α} {k : Nat} (h : k < l.length) : l.drop k = l[k] :: l.drop (k + 1) := List.drop_eq_getElem_cons h

set_option maxRecDepth 100000 in
set_option maxHeartbeats 1000000 in
theorem capsEqual_any (w : World) (B : Nat) (A1 A2 : Option Addr) (c1 c2 : Nat) (l1 l2 : List Cap) (h1 : Reads w B 3 A1 l1.length (capCells l1)) (h2 : Reads w B 3 A2 l2.length (capCells l2))
    (m1 : l1.length ≤ maxLen) (_m2 : l2.length ≤ maxLen) :
    Calls Tryd.prog 33 #[.slice A1 l1.length c1, .slice A2 l2.length c2] w fun e w' => e = .returned (.bool (capsEq l1 l2)) ∧ ∃ q, w' = w.drewN q := by
  unfold maxLen at m1 _m2
  by_cases hlen : l1.length = l2.length
  · go_enter Tryd.func33, Tryd.ntmps33
    have he : (((l1.length : Int) != (l2.length : Int)) = false) := by simp [hlen]
    have HL := Lib.hid hlen
    clear hlen
    go_wp2
    go_loopw [13] (fun i wr => ∃ k q : Nat, i = .int .i64 k ∧ k ≤ l1.length ∧ wr = w.drewN q ∧ Hid (capsEq l1 l2 = capsEq (l1.drop k) (l2.drop k))) (fun i _ => l1.length - (intOf i).toNat)
    case atStart => exact ⟨0, 0, rfl, by omega, rfl, rfl⟩
    case round =>
      obtain ⟨k, q, rfl, hk, rfl, HC⟩ := hrel
      by_cases hkn : k < l1.length
      · obtain ⟨g, off, rfl, _, d0, d1, d2⟩ := h1.cap hkn
        have hk2 : k < l2.length := by have := HL.out; omega
        obtain ⟨g', off', rfl, _, e0, e1, e2⟩ := h2.cap hk2
        have hne := fun W => run_neq_cap W l1[k] l2[k]
        have HS : Hid (capsEq l1 l2 = (capEq l1[k] l2[k] && capsEq (l1.drop (k + 1)) (l2.drop (k + 1)))) := by
          show capsEq l1 l2 = _
          rw [HC.out, drop_cons hkn, drop_cons hk2, capsEq]
        go_wp2
        go_quiet (fail)
        go_wp2
        · have ht : (!capEq l1[k] l2[k]) = true := by assumption
          go_ret
          exact ⟨ret_bool (by rw [HS.out]; simp at ht; simp [ht]), q + nq, by simp⟩
        · have ht : (!capEq l1[k] l2[k]) = false := by assumption
          go_roundw
          case rel => exact ⟨k + 1, q + nq, by go_num, by omega, by simp, (by rw [HS.out]; simp at ht; simp [ht] : capsEq l1 l2 = _)⟩
          case measure => simp [intOf]; omega
      · obtain rfl : k = l1.length := by omega
        go_wp2
        go_ret
        exact ⟨ret_bool (by rw [HC.out, List.drop_length, HL.out, List.drop_length]; rfl), q, rfl⟩
  · have hne := capsEq_length l1 l2 hlen
    have he : (((l1.length : Int) != (l2.length : Int)) = true) := by simp; omega
    have HN := Lib.hid hne
    clear hlen hne
    go_enter Tryd.func33, Tryd.ntmps33
    go_wp2
    go_ret
    exact ⟨ret_bool (by rw [HN.out]), 0, rfl⟩

def sameB (a b : Out) : Bool := a.ok == b.ok && (a.to == b.to && capsEq a.caps b.caps)
theorem sameB_iff (a b : Out) : sameB a b = true ↔ a = b := by
  obtain ⟨a1, a2, a3⟩ := a
  obtain ⟨b1, b2, b3⟩ := b
  simp [sameB, capsEq_iff]

set_option maxRecDepth 100000 in
set_option maxHeartbeats 1000000 in
theorem same_any (w : World) (x y : OutV) (hx : x.rd w w.heap.size) (hy : y.rd w w.heap.size) (fx : x.o.caps.length ≤ maxLen) (fy : y.o.caps.length ≤ maxLen) :
    Calls Tryd.prog 11 #[x.val, y.val] w fun e w' => e = .returned (.bool (sameB x.o y.o)) ∧ Below w.heap.size w w' := by
  obtain ⟨⟨ok, to, caps⟩, A, c⟩ := x
  obtain ⟨⟨ok', to', caps'⟩, A', c'⟩ := y
  have h1 := (hx.alloc (Nat.le_refl _) (.cells #[.bool ok, .int .i64 to, .slice A caps.length c] 24)).alloc (by simp) (.cells #[.bool ok', .int .i64 to', .slice A' caps'.length c'] 24)
  have h2 := (hy.alloc (Nat.le_refl _) (.cells #[.bool ok, .int .i64 to, .slice A caps.length c] 24)).alloc (by simp) (.cells #[.bool ok', .int .i64 to', .slice A' caps'.length c'] 24)
  have hb0 : ∀ o o', Below w.heap.size w ((w.alloc o).alloc o') := fun o o' => ((Below.refl _ _).alloc (Nat.le_refl _) o).alloc (by simp) o'
  unfold OutV.val sameB
  dsimp only at *
  by_cases e1 : ok = ok'
  · subst e1
    by_cases e2 : to = to'
    · subst e2
      go_enter Tryd.func11, Tryd.ntmps11
      go_wp2_with (go_at_call 33; refine (capsEqual_any _ w.heap.size A A' c c' caps caps' h1 h2 fx fy).mono ?_; rintro e w' ⟨rfl, q, rfl⟩)
      go_ret
      exact ⟨ret_bool (by simp), below_drewN (hb0 _ _) _⟩
    · have f2 : (to == to') = false := by simpa using e2
      clear e2
      go_enter Tryd.func11, Tryd.ntmps11
      go_wp2
      go_ret
      exact ⟨ret_bool (by simp [f2]), hb0 _ _⟩
  · have f1 : (ok == ok') = false := by simpa using e1
    clear e1
    go_enter Tryd.func11, Tryd.ntmps11
    go_wp2
    go_ret
    exact ⟨ret_bool (by simp [f1]), hb0 _ _⟩

/-- span.Fail: a failure; one new block. -/
theorem fail_any (w : World) : Calls Tryd.prog 12 #[] w fun e w' => e = .returned (.agg #[.bool false, .int .i64 0, .slice none 0 0]) ∧ Below w.heap.size w w' := by
  go_enter Tryd.func12, Tryd.ntmps12
  go_wp2
  exact bodyPost_ret (v := .agg #[.bool false, .int .i64 0, .slice none 0 0]) (by simp [results, Tryd.results12, go_sem]) rfl ⟨rfl, (Below.refl _ _).alloc (Nat.le_refl _) _⟩
end Go.Proofs.YtnmnbefbadhkgaaDoor
