/-
  WALK: name.Num.
-/
import Derived.Test.YtnmnbefbadhkgaaDoorName
import Derived.ScopeJumps
import Derived.LoopTactic
namespace Go.Proofs.YtnmnbefbadhkgaaDoor
open Go Go.RowKit

/-- A frame whose slots are not known. -/
theorem frame_open (a : Act) (n : Nat) (h : a.tmps.size = n) (hd : a.defers = []) : ∃ u : Nat → Value, a = ⟨((List.range n).map u).toArray, []⟩ := by
  obtain ⟨t, d⟩ := a
  dsimp only at h hd
  subst hd
  refine ⟨fun i => t.getD i undef, ?_⟩
  congr 1
  apply Array.ext
  · simp [h]
  · intro i h1 h2
    simp [h1]

/-- The digits of a number: its value so far, and whether it is too large. -/
def numL (most : Nat) : Nat → Bool → List UInt8 → Option (Nat × Bool)
  | n, lg, [] => some (n, lg)
  | n, lg, b :: l => if 48 ≤ b.toNat ∧ b.toNat ≤ 57 then (if lg = true ∨ most < b.toNat - 48 ∨ (most - (b.toNat - 48)) / 10 < n then numL most n true l else numL most (10 * n + (b.toNat - 48)) false l) else none
/-- What Num tells. -/
def numS (most : Nat) (l : List UInt8) : Nat × Nat :=
  if l = [] ∨ (1 < l.length ∧ l.head? = some 48) then (0, 4) else match numL most 0 false l with
    | none => (0, 4)
    | some (_, true) => (0, 40)
    | some (n, false) => (n, 0)

theorem digit_of (b : UInt8) (h : 48 ≤ b.toNat ∧ b.toNat ≤ 57) : digitB b.toNat = true := by
  unfold digitB IntKind.wrap
  simp [IntKind.signed, IntKind.bits]
  omega
theorem digit_no (b : UInt8) (h : ¬ (48 ≤ b.toNat ∧ b.toNat ≤ 57)) : digitB b.toNat = false := by
  have := b.toNat_lt
  unfold digitB IntKind.wrap
  simp [IntKind.signed, IntKind.bits]
  omega
theorem numL_cons (most n : Nat) (lg : Bool) (b : UInt8) (l : List UInt8) : numL most n lg (b :: l) = if 48 ≤ b.toNat ∧ b.toNat ≤ 57 then (if lg = true ∨ most < b.toNat - 48 ∨ (most - (b.toNat - 48)) / 10 < n then numL most n true l else numL most (10 * n + (b.toNat - 48)) false l) else none := rfl
theorem numL_le (most : Nat) : ∀ (l : List UInt8) (n : Nat) (lg : Bool) (m : Nat) (b : Bool), n ≤ most → numL most n lg l = some (m, b) → m ≤ most
  | [], n, lg, m, b, hn, h => by simp only [numL, Option.some.injEq, Prod.mk.injEq] at h; omega
  | x :: l, n, lg, m, b, hn, h => by
    rw [numL_cons] at h
    split at h
    · split at h
      · exact numL_le most l n true m b hn h
      · exact numL_le most l _ false m b (by omega) h
    · cases h
theorem numS_le (most : Nat) (l : List UInt8) : (numS most l).1 ≤ most := by
  unfold numS
  split
  · exact Nat.zero_le _
  · cases h : numL most 0 false l with
    | none => exact Nat.zero_le _
    | some p =>
      obtain ⟨n, b⟩ := p
      have := numL_le most l 0 false n b (Nat.zero_le _) h
      cases b
      · exact this
      · exact Nat.zero_le _
theorem jump_ret (l : Nat) (J : Act → World → Prop) (Q : Exit → Act → World → Prop) : Exit.jump l J Q .ret = Q .ret := rfl
theorem int_eqs {a b : Int} (h : a = b) : Value.int .i64 a = Value.int .i64 b := by rw [h]
theorem ret_num {a b c d : Int} (h : a = c) (h' : b = d) : Ending.returned (.tuple #[.int .i64 a, .int .i64 b]) = .returned (.tuple #[.int .i64 c, .int .i64 d]) := by rw [h, h']

set_option maxRecDepth 100000 in
set_option maxHeartbeats 2000000 in
theorem num_any' (w : World) (s : ByteArray) (most : Nat) (hs : s.size ≤ maxLen) (hm : most ≤ 1000000) :
    Calls Tryd.prog 47 #[.string s, .int .i64 most] w fun e w' => e = .returned (.tuple #[.int .i64 (numS most s.data.toList).1, .int .i64 (numS most s.data.toList).2]) ∧ w = w' := by
  unfold maxLen at hs
  have hl : s.data.toList.length = s.size := by simp
  have HL := Lib.hid hl
  obtain ⟨R, hR⟩ : ∃ R, numS most s.data.toList = R := ⟨_, rfl⟩
  rw [hR]
  have HR := Lib.hid hR
  clear hR
  have hneg : ¬ ((most : Int) < 0) := by omega
  go_enter Tryd.func47, Tryd.ntmps47
  go_wp2_with fail
  refine wp_scope_jumps 0 (fun a w' => a.tmps.size = 62 ∧ a.defers = [] ∧ w = w' ∧ Hid (R = (0, 4))) (fun _ _ => 0) rfl ?_ ?_
  · by_cases h0 : s.size = 0
    · have e0 : s.toList = [] := by rw [ByteArray.toList_eq]; exact List.eq_nil_of_length_eq_zero (by rw [hl]; exact h0)
      have e1 : s.toList.isEmpty = true := by rw [e0]; rfl
      have HX : Hid (R = (0, 4)) := by
        show R = _
        rw [← HR.out]
        unfold numS
        rw [if_pos (.inl (List.eq_nil_of_length_eq_zero (by rw [hl]; exact h0)))]
      clear h0 e0
      go_wp2
      go_step3
      exact ⟨rfl, rfl, rfl, rfl, HX⟩
    · have e0 : ¬ s.toList = [] := by rw [ByteArray.toList_eq]; intro e; exact h0 (by rw [← hl, e]; rfl)
      have e1 : s.toList.isEmpty = false := by simpa using e0
      by_cases hz : 1 < s.size ∧ s[0].toNat = 48
      · have HX : Hid (R = (0, 4)) := by
          show R = _
          rw [← HR.out]
          unfold numS
          rw [if_pos (.inr ⟨by rw [hl]; exact hz.1, by
            rw [List.head?_eq_getElem?, List.getElem?_eq_getElem (by rw [hl]; omega)]
            exact congrArg some (UInt8.toNat_inj.1 hz.2)⟩)]
        obtain ⟨hz1, hz2⟩ := hz
        have hz3 : ((s[0].toNat : Int) == 48) = true := by rw [hz2]; rfl
        have hz0 : 0 < s.size := by omega
        clear hz2 e0
        go_wp2
        go_step3
        exact ⟨rfl, rfl, rfl, rfl, HX⟩
      · have HS : Hid (R = match numL most 0 false s.data.toList with
            | none => (0, 4)
            | some (_, true) => (0, 40)
            | some (n, false) => (n, 0)) := by
          show R = _
          rw [← HR.out]
          unfold numS
          rw [if_neg]
          rintro (h | ⟨h1, h2⟩)
          · exact h0 (by rw [← hl, h]; rfl)
          · rw [List.head?_eq_getElem?, List.getElem?_eq_getElem (by rw [hl]; omega)] at h2
            exact hz ⟨by rw [← hl]; exact h1, by have := Option.some.inj h2; exact congrArg UInt8.toNat this⟩
        clear HR
        by_cases hz1 : 1 < s.size
        · have hz3 : ((s[0].toNat : Int) == 48) = false := by simp; intro h; exact hz ⟨hz1, by exact_mod_cast h⟩
          have hz0 : 0 < s.size := by omega
          clear hz e0 h0
          go_wp2
          go_loop [6, 7, 8, 9] (fun n lg i _ => ∃ (k m : Nat) (b : Bool), i = .int .i64 k ∧ k ≤ s.size ∧ n = .int .i64 m ∧ m ≤ most ∧ lg = .bool b ∧ Hid (numL most 0 false s.data.toList = numL most m b (s.data.toList.drop k))) (fun _ _ i _ => s.size - (intOf i).toNat)
          case atStart => exact ⟨0, 0, false, rfl, by omega, rfl, by omega, rfl, rfl⟩
          case round =>
            obtain ⟨k, m, b, rfl, hk, rfl, hmm, rfl, HC⟩ := hrel
            by_cases hkn : k < s.size
            · have hd : s.data.toList.drop k = s[k] :: s.data.toList.drop (k + 1) := by
                rw [List.drop_eq_getElem_cons (by simpa using hkn)]; rfl
              have HC' : Hid (numL most 0 false s.data.toList = numL most m b (s[k] :: s.data.toList.drop (k + 1))) := by
                show numL most 0 false s.data.toList = _
                rw [HC.out, hd]
              clear HC hd
              obtain ⟨x, hx⟩ : ∃ x, s[k] = x := ⟨_, rfl⟩
              rw [hx] at HC'
              have HD := Lib.hid hx
              have h8 := x.toNat_lt
              by_cases hdig : 48 ≤ x.toNat ∧ x.toNat ≤ 57
              · have hB := digit_of x hdig
                obtain ⟨g1, g2⟩ := hdig
                have HN : Hid (numL most 0 false s.data.toList = (if b = true ∨ most < x.toNat - 48 ∨ (most - (x.toNat - 48)) / 10 < m then numL most m true (s.data.toList.drop (k + 1)) else numL most (10 * m + (x.toNat - 48)) false (s.data.toList.drop (k + 1)))) := by
                  show numL most 0 false s.data.toList = _
                  rw [HC'.out, numL_cons, if_pos ⟨g1, g2⟩]
                clear HC'
                have HB := Lib.hid hB
                clear hB
                go_wp2_with fail
                refine (digit_any _ _).mono ?_
                rintro e w' ⟨rfl, rfl⟩
                rw [HB.out]
                cases b
                · by_cases hdm : (most : Int) < (x.toNat : Int) - 48
                  · have hdB : decide ((most : Int) < (x.toNat : Int) - 48) = true := decide_eq_true hdm
                    go_wp2
                    go_round
                    case rel =>
                      refine ⟨k + 1, m, true, by go_num, by omega, int_eqs (by omega), by omega, (by first | rfl | exact congrArg Value.bool (by simp; omega)), ?_⟩
                      show numL most 0 false s.data.toList = _
                      rw [HN.out]
                      rw [if_pos (Or.inr (Or.inl (by omega)))]
                    case measure => simp [intOf]; omega
                  · have hdB : decide ((most : Int) < (x.toNat : Int) - 48) = false := decide_eq_false hdm
                    by_cases hq : ((most : Int) - ((x.toNat : Int) - 48)) / 10 < (m : Int)
                    · have hqB : decide (((most : Int) - ((x.toNat : Int) - 48)) / 10 < (m : Int)) = true := decide_eq_true hq
                      go_wp2
                      go_round
                      case rel =>
                        refine ⟨k + 1, m, true, by go_num, by omega, int_eqs (by omega), by omega, (by first | rfl | exact congrArg Value.bool (by simp; omega)), ?_⟩
                        show numL most 0 false s.data.toList = _
                        rw [HN.out]
                        rw [if_pos (Or.inr (Or.inr (by omega)))]
                      case measure => simp [intOf]; omega
                    · have hqB : decide (((most : Int) - ((x.toNat : Int) - 48)) / 10 < (m : Int)) = false := decide_eq_false hq
                      go_wp2
                      go_round
                      case rel =>
                        refine ⟨k + 1, 10 * m + (x.toNat - 48), false, by go_num, by omega, int_eqs (by omega), by omega, (by first | rfl | exact congrArg Value.bool (by simp; omega)), ?_⟩
                        show numL most 0 false s.data.toList = _
                        rw [HN.out]
                        rw [if_neg (by rintro (h | h | h) <;> first | omega | cases h)]
                      case measure => simp [intOf]; omega
                · go_wp2
                  go_round
                  case rel =>
                    refine ⟨k + 1, m, true, by go_num, by omega, int_eqs (by omega), by omega, (by first | rfl | exact congrArg Value.bool (by simp; omega)), ?_⟩
                    show numL most 0 false s.data.toList = _
                    rw [HN.out]
                    rw [if_pos (Or.inl trivial)]
                  case measure => simp [intOf]; omega
              · have HB := Lib.hid (digit_no x hdig)
                have HN : Hid (numL most 0 false s.data.toList = none) := by
                  show numL most 0 false s.data.toList = _
                  rw [HC'.out, numL_cons, if_neg hdig]
                clear hdig
                go_wp2_with fail
                refine (digit_any _ _).mono ?_
                rintro e w' ⟨rfl, rfl⟩
                rw [HB.out]
                go_wp2
                go_step3
                refine ⟨?_, ?_, ?_, ?_, (by rw [HS.out, HN.out] : R = _)⟩ <;> first | rfl | trivial
            · have HN : Hid (numL most 0 false s.data.toList = some (m, b)) := by
                show numL most 0 false s.data.toList = _
                rw [HC.out, List.drop_eq_nil_of_le (by rw [HL.out]; omega)]
                rfl
              cases b
              · go_wp2
                rw [jump_ret]
                go_ret2
                exact ⟨by rw [HS.out, HN.out]; rfl, rfl⟩
              · go_wp2
                rw [jump_ret]
                go_ret2
                exact ⟨by rw [HS.out, HN.out]; rfl, rfl⟩
        · have hz0 : 0 < s.size := by omega
          clear hz e0 h0
          go_wp2
          go_loop [6, 7, 8, 9] (fun n lg i _ => ∃ (k m : Nat) (b : Bool), i = .int .i64 k ∧ k ≤ s.size ∧ n = .int .i64 m ∧ m ≤ most ∧ lg = .bool b ∧ Hid (numL most 0 false s.data.toList = numL most m b (s.data.toList.drop k))) (fun _ _ i _ => s.size - (intOf i).toNat)
          case atStart => exact ⟨0, 0, false, rfl, by omega, rfl, by omega, rfl, rfl⟩
          case round =>
            obtain ⟨k, m, b, rfl, hk, rfl, hmm, rfl, HC⟩ := hrel
            by_cases hkn : k < s.size
            · have hd : s.data.toList.drop k = s[k] :: s.data.toList.drop (k + 1) := by
                rw [List.drop_eq_getElem_cons (by simpa using hkn)]; rfl
              have HC' : Hid (numL most 0 false s.data.toList = numL most m b (s[k] :: s.data.toList.drop (k + 1))) := by
                show numL most 0 false s.data.toList = _
                rw [HC.out, hd]
              clear HC hd
              obtain ⟨x, hx⟩ : ∃ x, s[k] = x := ⟨_, rfl⟩
              rw [hx] at HC'
              have HD := Lib.hid hx
              have h8 := x.toNat_lt
              by_cases hdig : 48 ≤ x.toNat ∧ x.toNat ≤ 57
              · have hB := digit_of x hdig
                obtain ⟨g1, g2⟩ := hdig
                have HN : Hid (numL most 0 false s.data.toList = (if b = true ∨ most < x.toNat - 48 ∨ (most - (x.toNat - 48)) / 10 < m then numL most m true (s.data.toList.drop (k + 1)) else numL most (10 * m + (x.toNat - 48)) false (s.data.toList.drop (k + 1)))) := by
                  show numL most 0 false s.data.toList = _
                  rw [HC'.out, numL_cons, if_pos ⟨g1, g2⟩]
                clear HC'
                have HB := Lib.hid hB
                clear hB
                go_wp2_with fail
                refine (digit_any _ _).mono ?_
                rintro e w' ⟨rfl, rfl⟩
                rw [HB.out]
                cases b
                · by_cases hdm : (most : Int) < (x.toNat : Int) - 48
                  · have hdB : decide ((most : Int) < (x.toNat : Int) - 48) = true := decide_eq_true hdm
                    go_wp2
                    go_round
                    case rel =>
                      refine ⟨k + 1, m, true, by go_num, by omega, int_eqs (by omega), by omega, (by first | rfl | exact congrArg Value.bool (by simp; omega)), ?_⟩
                      show numL most 0 false s.data.toList = _
                      rw [HN.out]
                      rw [if_pos (Or.inr (Or.inl (by omega)))]
                    case measure => simp [intOf]; omega
                  · have hdB : decide ((most : Int) < (x.toNat : Int) - 48) = false := decide_eq_false hdm
                    by_cases hq : ((most : Int) - ((x.toNat : Int) - 48)) / 10 < (m : Int)
                    · have hqB : decide (((most : Int) - ((x.toNat : Int) - 48)) / 10 < (m : Int)) = true := decide_eq_true hq
                      go_wp2
                      go_round
                      case rel =>
                        refine ⟨k + 1, m, true, by go_num, by omega, int_eqs (by omega), by omega, (by first | rfl | exact congrArg Value.bool (by simp; omega)), ?_⟩
                        show numL most 0 false s.data.toList = _
                        rw [HN.out]
                        rw [if_pos (Or.inr (Or.inr (by omega)))]
                      case measure => simp [intOf]; omega
                    · have hqB : decide (((most : Int) - ((x.toNat : Int) - 48)) / 10 < (m : Int)) = false := decide_eq_false hq
                      go_wp2
                      go_round
                      case rel =>
                        refine ⟨k + 1, 10 * m + (x.toNat - 48), false, by go_num, by omega, int_eqs (by omega), by omega, (by first | rfl | exact congrArg Value.bool (by simp; omega)), ?_⟩
                        show numL most 0 false s.data.toList = _
                        rw [HN.out]
                        rw [if_neg (by rintro (h | h | h) <;> first | omega | cases h)]
                      case measure => simp [intOf]; omega
                · go_wp2
                  go_round
                  case rel =>
                    refine ⟨k + 1, m, true, by go_num, by omega, int_eqs (by omega), by omega, (by first | rfl | exact congrArg Value.bool (by simp; omega)), ?_⟩
                    show numL most 0 false s.data.toList = _
                    rw [HN.out]
                    rw [if_pos (Or.inl trivial)]
                  case measure => simp [intOf]; omega
              · have HB := Lib.hid (digit_no x hdig)
                have HN : Hid (numL most 0 false s.data.toList = none) := by
                  show numL most 0 false s.data.toList = _
                  rw [HC'.out, numL_cons, if_neg hdig]
                clear hdig
                go_wp2_with fail
                refine (digit_any _ _).mono ?_
                rintro e w' ⟨rfl, rfl⟩
                rw [HB.out]
                go_wp2
                go_step3
                refine ⟨?_, ?_, ?_, ?_, (by rw [HS.out, HN.out] : R = _)⟩ <;> first | rfl | trivial
            · have HN : Hid (numL most 0 false s.data.toList = some (m, b)) := by
                show numL most 0 false s.data.toList = _
                rw [HC.out, List.drop_eq_nil_of_le (by rw [HL.out]; omega)]
                rfl
              cases b
              · go_wp2
                rw [jump_ret]
                go_ret2
                exact ⟨by rw [HS.out, HN.out]; rfl, rfl⟩
              · go_wp2
                rw [jump_ret]
                go_ret2
                exact ⟨by rw [HS.out, HN.out]; rfl, rfl⟩
  · rintro a w' ⟨h1, h2, rfl, HX⟩
    obtain ⟨u, rfl⟩ := frame_open a 62 h1 h2
    rw [show (({ tmps := ((List.range 62).map u).toArray, defers := [] } : Act)) = { tmps := #[u 0, u 1, u 2, u 3, u 4, u 5, u 6, u 7, u 8, u 9, u 10, u 11, u 12, u 13, u 14, u 15, u 16, u 17, u 18, u 19, u 20, u 21, u 22, u 23, u 24, u 25, u 26, u 27, u 28, u 29, u 30, u 31, u 32, u 33, u 34, u 35, u 36, u 37, u 38, u 39, u 40, u 41, u 42, u 43, u 44, u 45, u 46, u 47, u 48, u 49, u 50, u 51, u 52, u 53, u 54, u 55, u 56, u 57, u 58, u 59, u 60, u 61], defers := [] } from rfl]
    go_wp2
    rw [jump_ret]
    go_ret2
    exact ⟨by rw [HX.out]; rfl, rfl⟩
end Go.Proofs.YtnmnbefbadhkgaaDoor
