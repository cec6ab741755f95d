/-
  PLAIN MATHS OF A LOG'S BYTES: numbers in bytes of seven bits, items, logs; what is read back.
-/
import Derived.WalkKit
namespace Go.Proofs.YtnmnbefbadhkgaaDoor
open Go Go.RowKit

def encF : Nat → Nat → List UInt8
  | 0, _ => []
  | f + 1, n => if n < 128 then [UInt8.ofNat n] else UInt8.ofNat (n % 128 + 128) :: encF f (n / 128)
def enc (n : Nat) : List UInt8 := encF 10 n

/-- A number is read: k bytes of it are read already, they come to n. -/
def numGo (most : Nat) : Nat → Nat → List UInt8 → Except Nat (Nat × List UInt8)
  | _, _, [] => .error 8
  | k, n, b :: s =>
    if most < n + b.toNat % 128 * 128 ^ k then .error 4
    else if 128 ≤ b.toNat then (if k + 1 < 5 then numGo most (k + 1) (n + b.toNat % 128 * 128 ^ k) s else .error 4)
    else if 0 < k ∧ b.toNat = 0 then .error 4 else .ok (n + b.toNat % 128 * 128 ^ k, s)

theorem numGo_nil (most k n : Nat) : numGo most k n [] = .error 8 := by unfold numGo; rfl
theorem numGo_cons (most k n : Nat) (b : UInt8) (s : List UInt8) : numGo most k n (b :: s) =
    if most < n + b.toNat % 128 * 128 ^ k then .error 4
    else if 128 ≤ b.toNat then (if k + 1 < 5 then numGo most (k + 1) (n + b.toNat % 128 * 128 ^ k) s else .error 4)
    else if 0 < k ∧ b.toNat = 0 then .error 4 else .ok (n + b.toNat % 128 * 128 ^ k, s) := by rw [numGo]

/-- What is written is read. -/
theorem numGo_enc (most : Nat) (rest : List UInt8) : ∀ (f k acc m : Nat), k + f = 5 → m < 128 ^ f → (k = 0 ∨ 0 < m) → acc + m * 128 ^ k ≤ most → numGo most k acc (encF f m ++ rest) = .ok (acc + m * 128 ^ k, rest)
  | 0, k, acc, m, hk, hm, h0, _ => by
    have hm' : m < 1 := by simpa using hm
    omega
  | f + 1, k, acc, m, hk, hm, h0, hle => by
    rw [encF]
    split
    · rename_i h
      have e : (UInt8.ofNat m).toNat = m := by simp; omega
      rw [List.cons_append, numGo_cons, e, Nat.mod_eq_of_lt h, if_neg (by omega), if_neg (by omega), if_neg (by omega)]
      rfl
    · rename_i h
      have e : (UInt8.ofNat (m % 128 + 128)).toNat = m % 128 + 128 := by simp; omega
      have hf : f ≠ 0 := fun e => by subst e; simp at hm; omega
      have h1 : m * 128 ^ k = m % 128 * 128 ^ k + m / 128 * 128 ^ (k + 1) := by
        rw [Nat.pow_succ, Nat.mul_comm (128 ^ k) 128, ← Nat.mul_assoc, ← Nat.add_mul]
        congr 1
        omega
      have hm2 : m / 128 < 128 ^ f := by
        rw [Nat.pow_succ] at hm
        exact Nat.div_lt_of_lt_mul (by omega)
      rw [List.cons_append, numGo_cons, e, show (m % 128 + 128) % 128 = m % 128 from by omega, if_neg (by omega), if_pos (by omega), if_pos (by omega), numGo_enc most rest f (k + 1) _ (m / 128) (by omega) hm2 (.inr (by omega)) (by omega)]
      rw [h1, Nat.add_assoc]

/-- What is missing is missed. -/
theorem numGo_short (most : Nat) : ∀ (f k acc m : Nat) (p q : List UInt8), k + f = 5 → m < 128 ^ f → (k = 0 ∨ 0 < m) → acc + m * 128 ^ k ≤ most → encF f m = p ++ q → q ≠ [] → numGo most k acc p = .error 8
  | f, k, acc, m, [], q, _, _, _, _, _, _ => numGo_nil _ _ _
  | 0, k, acc, m, b :: p, q, hk, hm, h0, hle, he, hq => by simp [encF] at he
  | f + 1, k, acc, m, b :: p, q, hk, hm, h0, hle, he, hq => by
    rw [encF] at he
    split at he
    · simp at he
      exact absurd he.2.2 hq
    · rename_i h
      rw [List.cons_append, List.cons.injEq] at he
      obtain ⟨rfl, he⟩ := he
      have e : (UInt8.ofNat (m % 128 + 128)).toNat = m % 128 + 128 := by simp; omega
      have hf : f ≠ 0 := fun e => by subst e; simp at hm; omega
      have h1 : m * 128 ^ k = m % 128 * 128 ^ k + m / 128 * 128 ^ (k + 1) := by
        rw [Nat.pow_succ, Nat.mul_comm (128 ^ k) 128, ← Nat.mul_assoc, ← Nat.add_mul]
        congr 1
        omega
      have hm2 : m / 128 < 128 ^ f := by
        rw [Nat.pow_succ] at hm
        exact Nat.div_lt_of_lt_mul (by omega)
      rw [numGo_cons, e, show (m % 128 + 128) % 128 = m % 128 from by omega, if_neg (by omega), if_pos (by omega), if_pos (by omega)]
      exact numGo_short most f (k + 1) _ (m / 128) p q (by omega) hm2 (.inr (by omega)) (by omega) he hq

/-- What is read was written. -/
theorem numGo_back (most : Nat) : ∀ (s : List UInt8) (f k acc n : Nat) (rest : List UInt8), k + (f + 1) = 5 → numGo most k acc s = .ok (n, rest) →
    ∃ m, n = acc + m * 128 ^ k ∧ s = encF (f + 1) m ++ rest ∧ m < 128 ^ (f + 1) ∧ (k = 0 ∨ 0 < m) ∧ n ≤ most
  | [], f, k, acc, n, rest, _, h => by rw [numGo_nil] at h; cases h
  | b :: s, f, k, acc, n, rest, hk, h => by
    have hb8 : b.toNat < 256 := b.toNat_lt
    rw [numGo_cons] at h
    split at h
    · cases h
    rename_i hle
    split at h
    · rename_i hb
      split at h
      · rename_i hk4
        obtain ⟨g, rfl⟩ : ∃ g, f = g + 1 := ⟨f - 1, by omega⟩
        obtain ⟨m, h1, h2, h3, h4, h5⟩ := numGo_back most s g (k + 1) _ n rest (by omega) h
        have hm : 0 < m := by omega
        have e1 : (b.toNat % 128 + m * 128) / 128 = m := by omega
        have e2 : (b.toNat % 128 + m * 128) % 128 = b.toNat % 128 := by omega
        refine ⟨b.toNat % 128 + m * 128, ?_, ?_, ?_, .inr (by omega), h5⟩
        · rw [h1, Nat.add_mul, Nat.mul_assoc, Nat.pow_succ, Nat.mul_comm 128 (128 ^ k)]
          omega
        · rw [encF, if_neg (by omega), e1, e2, h2, List.cons_append]
          congr 1
          apply UInt8.toNat_inj.1
          simp
          omega
        · rw [Nat.pow_succ]
          omega
      · cases h
    rename_i hb
    split at h
    · cases h
    rename_i h0
    cases h
    refine ⟨b.toNat, ?_, ?_, ?_, ?_, by omega⟩
    · rw [Nat.mod_eq_of_lt (by omega)]
    · rw [encF, if_pos (by omega)]
      simp
    · exact Nat.lt_of_lt_of_le (by omega : b.toNat < 128 ^ 1) (Nat.pow_le_pow_right (by omega) (by omega))
    · omega

/-- Enough room does not matter. -/
theorem encF_more : ∀ (f m : Nat), m < 128 ^ f → 0 < f → ∀ g, encF (f + g) m = encF f m
  | 0, m, hm, h0, g => absurd h0 (by omega)
  | f + 1, m, hm, _, g => by
    rw [show f + 1 + g = (f + g) + 1 from by omega, encF, encF]
    split
    · rfl
    · rename_i h
      have hf : 0 < f := by
        rcases Nat.eq_zero_or_pos f with e | e
        · subst e; simp at hm; omega
        · exact e
      rw [encF_more f (m / 128) (by rw [Nat.pow_succ] at hm; exact Nat.div_lt_of_lt_mul (by omega)) hf g]
theorem enc_five {m : Nat} (h : m < 128 ^ 5) : enc m = encF 5 m := encF_more 5 m h (by omega) 5

/-! ### the reader -/

/-- The text that is left, and the error. -/
structure Rdr where
  s : List UInt8
  e : Nat
def num (most : Nat) (r : Rdr) : Nat × Rdr :=
  if r.e ≠ 0 then (0, r) else match numGo most 0 0 r.s with
    | .ok (n, t) => (n, ⟨t, 0⟩)
    | .error k => (0, ⟨r.s, k⟩)
def nums (most : Nat) : Nat → Rdr → List Nat × Rdr
  | 0, r => ([], r)
  | n + 1, r => let x := num most r; let y := nums most n x.2; (x.1 :: y.1, y.2)

structure Stp where
  pass : Nat
  way : Nat
  rule : Int
  path : List Int
  at_ : Int
structure Itm where
  mark : Bool
  step : Stp
def Stp.zero : Stp := ⟨0, 0, 0, [], 0⟩
def maxNum : Nat := 2147483647
def readItem (r : Rdr) : Itm × Rdr :=
  let a := num 255 r
  if a.1 = 0 then (⟨true, Stp.zero⟩, a.2) else
    let b := num 255 a.2
    let c := num maxNum b.2
    let d := num 32 c.2
    let p := nums maxNum d.1 d.2
    let t := num maxNum p.2
    (⟨false, ⟨a.1, b.1, c.1, p.1.map Int.ofNat, t.1⟩⟩, t.2)
def readItems : Nat → Rdr → List Itm × Rdr
  | 0, r => ([], r)
  | n + 1, r => let x := readItem r; if x.2.e ≠ 0 then ([x.1], x.2) else let y := readItems n x.2; (x.1 :: y.1, y.2)
def readLog (s : List UInt8) : List Itm × Nat :=
  let m := num maxNum ⟨s, 0⟩
  if 4096 < m.1 then ([], 40) else
    let l := readItems m.1 m.2
    if l.2.e ≠ 0 then ([], l.2.e) else if l.2.s ≠ [] then ([], 10) else (l.1, 0)

def okNum (n : Int) : Bool := decide (0 ≤ n) && decide (n ≤ 2147483647)
def Itm.may (x : Itm) : Bool :=
  if x.mark then decide (x.step.pass = 0) && decide (x.step.way = 0) && decide (x.step.rule = 0) && decide (x.step.at_ = 0) && x.step.path.isEmpty
  else decide (x.step.pass ≠ 0) && okNum x.step.rule && okNum x.step.at_ && decide (x.step.path.length ≤ 32) && x.step.path.all okNum
def Itm.bytes (x : Itm) : List UInt8 :=
  if x.mark then enc 0 else enc x.step.pass ++ enc x.step.way ++ enc x.step.rule.toNat ++ enc x.step.path.length ++ (x.step.path.flatMap fun n => enc n.toNat) ++ enc x.step.at_.toNat
def logBytes (l : List Itm) : List UInt8 := enc l.length ++ l.flatMap Itm.bytes
def logMay (l : List Itm) : Bool := decide (l.length ≤ 4096) && l.all Itm.may

/-! ### what is written is read -/
theorem num_enc (most : Nat) (n : Nat) (rest : List UInt8) (hn : n ≤ most) (hm : most < 128 ^ 5) : num most ⟨enc n ++ rest, 0⟩ = (n, ⟨rest, 0⟩) := by
  unfold num
  rw [if_neg (by simp), enc_five (by omega)]
  have := numGo_enc most rest 5 0 0 n rfl (by omega) (.inl rfl) (by simpa using hn)
  simp only [Nat.zero_add, Nat.pow_zero, Nat.mul_one] at this
  simp only [this]
theorem num_err (most : Nat) (r : Rdr) (h : r.e ≠ 0) : num most r = (0, r) := by unfold num; rw [if_pos h]
theorem num_short (most : Nat) (n : Nat) (p q : List UInt8) (hn : n ≤ most) (hm : most < 128 ^ 5) (he : enc n = p ++ q) (hq : q ≠ []) : num most ⟨p, 0⟩ = (0, ⟨p, 8⟩) := by
  unfold num
  rw [enc_five (by omega)] at he
  have := numGo_short most 5 0 0 n p q rfl (by omega) (.inl rfl) (by simpa using hn) he hq
  rw [if_neg (by simp)]
  simp only [this]
theorem enc_ne (n : Nat) : enc n ≠ [] := by
  unfold enc encF
  split <;> simp
end Go.Proofs.YtnmnbefbadhkgaaDoor
