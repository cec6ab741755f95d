/-
  PLAIN MATHS OF NUMBERS' TEXTS: what Num reads of what Itoa writes, and back.
-/
import Derived.Test.YtnmnbefbadhkgaaDoorNum
import Derived.Lib.ItoaNum
namespace Go.Proofs.YtnmnbefbadhkgaaDoor
open Go

theorem dec_small {u : Nat} (h : u < 10) : Lib.decDigits u = [UInt8.ofNat (48 + u)] := by rw [Lib.decDigits, dif_pos h]
theorem dec_more {u : Nat} (h : ¬ u < 10) : Lib.decDigits u = Lib.decDigits (u / 10) ++ [UInt8.ofNat (48 + u % 10)] := by rw [Lib.decDigits, dif_neg h]
theorem dig_toNat {d : Nat} (h : d < 10) : (UInt8.ofNat (48 + d)).toNat = 48 + d := by simp; omega
theorem dec_mem (u : Nat) : ∀ b ∈ Lib.decDigits u, 48 ≤ b.toNat ∧ b.toNat ≤ 57 := by
  induction u using Nat.strongRecOn with
  | ind u ih =>
    intro b hb
    by_cases h : u < 10
    · rw [dec_small h, List.mem_singleton] at hb
      subst hb
      rw [dig_toNat h]
      omega
    · rw [dec_more h] at hb
      rcases List.mem_append.1 hb with hb | hb
      · exact ih _ (by omega) b hb
      · rw [List.mem_singleton] at hb
        subst hb
        rw [dig_toNat (Nat.mod_lt _ (by omega))]
        omega
theorem dec_ne (u : Nat) : Lib.decDigits u ≠ [] := by
  by_cases h : u < 10
  · rw [dec_small h]; simp
  · rw [dec_more h]; simp
theorem dec_head (u : Nat) (h0 : 0 < u) : (Lib.decDigits u).head? ≠ some 48 := by
  induction u using Nat.strongRecOn with
  | ind u ih =>
    by_cases h : u < 10
    · rw [dec_small h]
      intro e
      have := congrArg UInt8.toNat (Option.some.inj e)
      rw [dig_toNat h] at this
      simp at this
      omega
    · rw [dec_more h]
      have := ih (u / 10) (by omega) (by omega)
      cases hl : Lib.decDigits (u / 10) with
      | nil => exact absurd hl (dec_ne _)
      | cons a l => rw [hl] at this; simpa using this
theorem dec_len {u : Nat} (h : 1 < (Lib.decDigits u).length) : 0 < u := by
  rcases Nat.eq_zero_or_pos u with e | e
  · subst e; rw [dec_small (by omega)] at h; simp at h
  · exact e
theorem numL_append (most : Nat) : ∀ (a b : List UInt8) (n : Nat) (lg : Bool), numL most n lg (a ++ b) = match numL most n lg a with
    | some (m, g) => numL most m g b
    | none => none
  | [], b, n, lg => rfl
  | x :: a, b, n, lg => by
    rw [List.cons_append, numL_cons, numL_cons]
    split
    · split
      · exact numL_append most a b n true
      · exact numL_append most a b _ false
    · rfl
theorem numL_dec (most u : Nat) (h : u ≤ most) : numL most 0 false (Lib.decDigits u) = some (u, false) := by
  induction u using Nat.strongRecOn with
  | ind u ih =>
    by_cases hs : u < 10
    · rw [dec_small hs, numL_cons, dig_toNat hs, if_pos (by omega), if_neg (by rintro (e | e | e) <;> first | omega | cases e)]
      simp [numL]
    · rw [dec_more hs, numL_append, ih _ (by omega) (by omega)]
      dsimp only
      have hm := Nat.mod_lt u (show 0 < 10 by omega)
      rw [numL_cons, dig_toNat hm, if_pos (by omega), if_neg (by rintro (e | e | e) <;> first | omega | cases e)]
      simp only [numL, Option.some.injEq, Prod.mk.injEq, and_true]
      omega
/-- What was written is read. -/
theorem numS_dec (most u : Nat) (h : u ≤ most) : numS most (Lib.decDigits u) = (u, 0) := by
  unfold numS
  rw [if_neg, numL_dec most u h]
  rintro (e | ⟨e1, e2⟩)
  · exact dec_ne u e
  · exact dec_head u (dec_len e1) e2
theorem numL_back (most : Nat) : ∀ (k : Nat) (l : List UInt8) (n : Nat), l.length = k → l ≠ [] → (1 < l.length → l.head? ≠ some 48) → numL most 0 false l = some (n, false) → l = Lib.decDigits n := by
  intro k
  induction k with
  | zero => intro l n hl hne; exact absurd (List.eq_nil_of_length_eq_zero hl) hne
  | succ k ih =>
    intro l n hl hne hz h
    rcases List.eq_nil_or_concat l with e | ⟨a, b, e⟩
    · exact absurd e hne
    subst e
    simp only [List.concat_eq_append] at *
    rw [numL_append] at h
    cases ha : numL most 0 false a with
    | none => rw [ha] at h; cases h
    | some p =>
      obtain ⟨m, g⟩ := p
      rw [ha] at h
      dsimp only at h
      rw [numL_cons] at h
      split at h
      · rename_i hd
        split at h
        · simp [numL] at h
        · rename_i hlg
          simp only [numL, Option.some.injEq, Prod.mk.injEq, and_true] at h
          have hg : g = false := by cases g with
            | false => rfl
            | true => exact absurd (.inl rfl) hlg
          subst hg
          have hb : b = UInt8.ofNat (48 + (b.toNat - 48)) := by
            apply UInt8.toNat_inj.1
            simp
            omega
          by_cases hae : a = []
          · subst hae
            simp only [numL, Option.some.injEq, Prod.mk.injEq, and_true] at ha
            have hn : n = b.toNat - 48 := by omega
            rw [List.nil_append, hn, dec_small (by omega), ← hb]
          · have hal : 0 < a.length := List.length_pos_iff.2 hae
            have hh : a.head? ≠ some 48 := by
              have := hz (by simp; omega)
              cases a with
              | nil => exact absurd rfl hae
              | cons x a => simpa using this
            have hia := ih a m (by simpa using hl) hae (fun _ => hh) ha
            have hm : 0 < m := by
              rcases Nat.eq_zero_or_pos m with e | e
              · subst e
                rw [dec_small (by omega)] at hia
                rw [hia] at hh
                exact absurd rfl hh
              · exact e
            rw [dec_more (by omega), show n / 10 = m by omega, show n % 10 = b.toNat - 48 by omega, ← hia, ← hb]
      · cases h
/-- What is read was written. -/
theorem numS_back {most : Nat} {l : List UInt8} (h : (numS most l).2 = 0) : l = Lib.decDigits (numS most l).1 := by
  unfold numS at h ⊢
  split at h
  · simp at h
  · rename_i hc
    rw [if_neg hc]
    cases hn : numL most 0 false l with
    | none => rw [hn] at h; simp at h
    | some p =>
      obtain ⟨n, g⟩ := p
      rw [hn] at h
      cases g with
      | true => simp at h
      | false => exact numL_back most l.length l n rfl (fun e => hc (.inl e)) (fun e e2 => hc (.inr ⟨e, e2⟩)) hn
theorem itoa_nat (n : Nat) : Lib.itoa (n : Int) = Lib.decDigits n := by
  unfold Lib.itoa
  rw [if_neg (by omega), Int.toNat_natCast]
theorem itoa_pos {n : Int} (h : 0 ≤ n) : Lib.itoa n = Lib.decDigits n.toNat := by
  unfold Lib.itoa
  rw [if_neg (by omega)]
theorem dec_not {u : Nat} {c : UInt8} (h : c.toNat < 48 ∨ 57 < c.toNat) : c ∉ Lib.decDigits u := fun hm => by have := dec_mem u c hm; omega
end Go.Proofs.YtnmnbefbadhkgaaDoor
