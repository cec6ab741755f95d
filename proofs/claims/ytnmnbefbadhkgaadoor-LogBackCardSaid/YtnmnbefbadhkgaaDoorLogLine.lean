/-
  PLAIN LAW OF ITEMS' LINES: there and back.
-/
import Derived.Test.YtnmnbefbadhkgaaDoorLogShow
import Derived.Test.YtnmnbefbadhkgaaDoorLogLaw
import Derived.Test.YtnmnbefbadhkgaaDoorText
import Derived.Test.YtnmnbefbadhkgaaDoorDigits
import Derived.Lib.AtoiAll
namespace Go.Proofs.YtnmnbefbadhkgaaDoor
open Go Go.RowKit

/-- The numbers of some words; none: one is no number. -/
def atois : List (List UInt8) → Option (List Int)
  | [] => some []
  | w :: ws => match Lib.atoiAll w, atois ws with
    | .ok v, some l => some (v :: l)
    | _, _ => none
def words (s : List UInt8) : List (List UInt8) :=
  [(Lib.cut (Lib.cut s [32]).1 [46]).1, (Lib.cut (Lib.cut s [32]).1 [46]).2.1, (Lib.cut (Lib.cut s [32]).2.1 [32, 64]).2.1] ++ split1 47 (Lib.cut (Lib.cut s [32]).2.1 [32, 64]).1
def u8N (n : Int) : Nat := (IntKind.u8.wrap n).toNat
def itemOf : List Int → Itm
  | a :: b :: t :: r :: ns => ⟨false, ⟨u8N a, u8N b, r, ns, t⟩⟩
  | _ => ⟨true, Stp.zero⟩
def readLine (s : List UInt8) : Option Itm :=
  if s = [109, 97, 114, 107] then some ⟨true, Stp.zero⟩ else match atois (words s) with
    | some l => if showItm (itemOf l) = s then some (itemOf l) else none
    | none => none

theorem parse10_dec (u : Nat) (h : u < 9223372036854775808) : Lib.parseUint10 0 (Lib.decDigits u) = .ok u := by
  have app : ∀ (a b : List UInt8) (acc m : Nat), Lib.parseUint10 acc a = .ok m → Lib.parseUint10 acc (a ++ b) = Lib.parseUint10 m b := by
    intro a
    induction a with
    | nil => intro b acc m h; simp only [Lib.parseUint10, Lib.NumEnd.ok.injEq] at h; rw [h, List.nil_append]
    | cons x a ih =>
      intro b acc m h
      rw [List.cons_append, Lib.parseUint10]
      rw [Lib.parseUint10] at h
      split at h
      · rename_i hd
        rw [if_pos hd]
        split at h
        · cases h
        · rename_i h1
          rw [if_neg h1]
          split at h
          · cases h
          · rename_i h2
            rw [if_neg h2]
            exact ih b _ m h
      · cases h
  induction u using Nat.strongRecOn with
  | ind u ih =>
    by_cases hs : u < 10
    · rw [dec_small hs, Lib.parseUint10, dig_toNat hs, if_pos (by omega), if_neg (by omega), if_neg (by omega)]
      simp [Lib.parseUint10]
    · rw [dec_more hs, app _ _ _ _ (ih (u / 10) (by omega) (by omega))]
      have hm := Nat.mod_lt u (show 0 < 10 by omega)
      rw [Lib.parseUint10, dig_toNat hm, if_pos (by omega), if_neg (by omega), if_neg (by omega)]
      simp only [Lib.parseUint10, Lib.NumEnd.ok.injEq]
      omega
theorem atoi_dec (u : Nat) (h : u < 9223372036854775808) : Lib.atoiAll (Lib.decDigits u) = .ok (u : Int) := by
  cases hl : Lib.decDigits u with
  | nil => exact absurd hl (dec_ne u)
  | cons c r =>
    have hc := dec_mem u c (by rw [hl]; simp)
    unfold Lib.atoiAll
    dsimp only
    rw [if_neg (by omega), ← hl]
    unfold Lib.parseMag
    rw [if_neg (dec_ne u), parse10_dec u h]
    dsimp only
    rw [if_neg (by omega), if_neg (by omega), if_neg (by omega)]
theorem atois_dec : ∀ (l : List Int), (∀ n ∈ l, okNum n = true) → atois (l.map fun n => Lib.decDigits n.toNat) = some l
  | [], _ => rfl
  | n :: l, h => by
    have hn := h n (by simp)
    simp only [okNum, Bool.and_eq_true, decide_eq_true_eq] at hn
    rw [List.map_cons, atois, atoi_dec _ (by omega), atois_dec l fun m hm => h m (by simp [hm]), Int.toNat_of_nonneg hn.1]
theorem cut_two {a r : List UInt8} (h : (32 : UInt8) ∉ a) : Lib.cut (a ++ 32 :: 64 :: r) [32, 64] = (a, r, true) := by
  have hi : Lib.index (a ++ 32 :: 64 :: r) [32, 64] = a.length := by
    refine Lib.index_first (by simp) (by simp [Lib.occAt, List.isPrefixOf]) fun j hj => ?_
    unfold Lib.occAt
    rw [List.drop_append_of_le_length (by omega)]
    cases hd : a.drop j with
    | nil => have := congrArg List.length hd; simp at this; omega
    | cons x l =>
      have hx : x ∈ a := List.mem_of_mem_drop (by rw [hd]; simp : x ∈ a.drop j)
      have hne : ¬ (32 : UInt8) = x := fun e => h (by rw [e]; exact hx)
      simp [List.isPrefixOf, hne]
  unfold Lib.cut
  rw [hi, if_pos (by omega)]
  simp
theorem steps_split (r : Nat) : ∀ (l : List Int), (∀ n ∈ l, okNum n = true) → split1 47 (Lib.decDigits r ++ showSteps l) = Lib.decDigits r :: l.map fun n => Lib.decDigits n.toNat
  | [], _ => by
    show split1 47 (Lib.decDigits r ++ []) = _
    rw [List.append_nil, split1_not (dec_not (.inl (by decide)))]
    rfl
  | n :: l, h => by
    have hn := h n (by simp)
    simp only [okNum, Bool.and_eq_true, decide_eq_true_eq] at hn
    have ih := steps_split n.toNat l fun m hm => h m (by simp [hm])
    show split1 47 (Lib.decDigits r ++ (47 :: Lib.itoa n ++ showSteps l)) = _
    rw [itoa_pos hn.1, List.cons_append, split1_at _ (dec_not (.inl (by decide))), ih]
    rfl
theorem steps_not : ∀ (l : List Int), (∀ n ∈ l, okNum n = true) → (32 : UInt8) ∉ showSteps l
  | [], _ => by simp [showSteps]
  | n :: l, h => by
    have hn := h n (by simp)
    simp only [okNum, Bool.and_eq_true, decide_eq_true_eq] at hn
    show (32 : UInt8) ∉ 47 :: Lib.itoa n ++ showSteps l
    rw [itoa_pos hn.1]
    intro hx
    simp only [List.cons_append, List.mem_cons, List.mem_append] at hx
    rcases hx with hx | hx | hx
    · exact absurd hx (by decide)
    · exact dec_not (.inl (by decide)) hx
    · exact steps_not l (fun m hm => h m (by simp [hm])) hx
theorem u8N_small {n : Nat} (h : n < 256) : u8N (n : Int) = n := by
  unfold u8N
  simp only [IntKind.wrap, IntKind.signed, IntKind.bits]
  simp
  omega

/-- What was shown is read as it was. -/
theorem read_show (x : Itm) (h : x.may = true) (hn : x.narrow) : readLine (showItm x) = some x := by
  cases hm : x.mark
  · obtain ⟨h1, h2, h3, h4, h5⟩ := may_step h hm
    have hr := h2
    have ht := h3
    simp only [okNum, Bool.and_eq_true, decide_eq_true_eq] at hr ht
    have hs : showItm x = (Lib.decDigits x.step.pass ++ 46 :: Lib.decDigits x.step.way) ++ 32 :: ((Lib.decDigits x.step.rule.toNat ++ showSteps x.step.path) ++ 32 :: 64 :: Lib.decDigits x.step.at_.toNat) := by
      unfold showItm showTop
      rw [h, hm, itoa_nat, itoa_nat, itoa_pos hr.1, itoa_pos ht.1]
      simp
    have d : ∀ u, (32 : UInt8) ∉ Lib.decDigits u := fun u => dec_not (.inl (by decide))
    have e1 : Lib.cut (showItm x) [32] = (Lib.decDigits x.step.pass ++ 46 :: Lib.decDigits x.step.way, (Lib.decDigits x.step.rule.toNat ++ showSteps x.step.path) ++ 32 :: 64 :: Lib.decDigits x.step.at_.toNat, true) := by
      rw [cut_one, hs, cut1_at _ (by
        intro hx
        simp only [List.mem_append, List.mem_cons] at hx
        rcases hx with hx | hx | hx
        · exact d _ hx
        · exact absurd hx (by decide)
        · exact d _ hx)]
    have e2 : words (showItm x) = [Lib.decDigits x.step.pass, Lib.decDigits x.step.way, Lib.decDigits x.step.at_.toNat, Lib.decDigits x.step.rule.toNat] ++ x.step.path.map fun n => Lib.decDigits n.toNat := by
      unfold words
      rw [e1]
      dsimp only
      rw [cut_one, cut1_at _ (dec_not (.inl (by decide))), cut_two (by
        intro hx
        rcases List.mem_append.1 hx with hx | hx
        · exact d _ hx
        · exact steps_not _ h5 hx)]
      dsimp only
      rw [steps_split _ _ h5]
      rfl
    have e3 : atois (words (showItm x)) = some ([(x.step.pass : Int), (x.step.way : Int), x.step.at_, x.step.rule] ++ x.step.path) := by
      have := atois_dec ([(x.step.pass : Int), (x.step.way : Int), x.step.at_, x.step.rule] ++ x.step.path) (by
        intro n hx
        have p1 := hn.1
        have p2 := hn.2
        rcases List.mem_append.1 hx with hx | hx
        · simp only [List.mem_cons, List.mem_nil_iff, or_false] at hx
          rcases hx with rfl | rfl | rfl | rfl
          · simp only [okNum, Bool.and_eq_true, decide_eq_true_eq]; omega
          · simp only [okNum, Bool.and_eq_true, decide_eq_true_eq]; omega
          · exact h3
          · exact h2
        · exact h5 n hx)
      rw [e2, ← this]
      simp
    unfold readLine
    rw [e3]
    have e4 : itemOf ([(x.step.pass : Int), (x.step.way : Int), x.step.at_, x.step.rule] ++ x.step.path) = x := by
      show (⟨false, ⟨u8N x.step.pass, u8N x.step.way, x.step.rule, x.step.path, x.step.at_⟩⟩ : Itm) = x
      rw [u8N_small hn.1, u8N_small hn.2]
      obtain ⟨mk, st⟩ := x
      dsimp only at hm
      subst hm
      rfl
    rw [if_neg]
    · dsimp only
      rw [e4, if_pos rfl]
    · rw [hs]
      cases hd : Lib.decDigits x.step.pass with
      | nil => exact absurd hd (dec_ne _)
      | cons b l =>
        have := dec_mem x.step.pass b (by rw [hd]; simp)
        intro e
        have := (List.cons.inj e).1
        subst this
        revert this
        simp at *
  · have hx := may_mark h hm
    subst hx
    rfl
/-- What is read may be, and, shown, is the line. -/
theorem show_read {s : List UInt8} {x : Itm} (h : readLine s = some x) : x.may = true ∧ showItm x = s := by
  unfold readLine at h
  split at h
  · rename_i e
    cases h
    exact ⟨rfl, e.symm⟩
  · cases ha : atois (words s) with
    | none => rw [ha] at h; cases h
    | some l =>
      rw [ha] at h
      dsimp only at h
      split at h
      · rename_i hs
        cases h
        refine ⟨?_, hs⟩
        cases hm : (itemOf l).may with
        | true => rfl
        | false =>
          have : s = [] := by rw [← hs]; unfold showItm; rw [hm]; rfl
          subst this
          have he : atois (words []) = none := rfl
          rw [he] at ha
          cases ha
      · cases h
theorem read_nil : readLine [] = none := rfl
end Go.Proofs.YtnmnbefbadhkgaaDoor
