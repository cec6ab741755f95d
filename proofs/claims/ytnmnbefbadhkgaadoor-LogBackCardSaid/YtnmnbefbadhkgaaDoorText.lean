/-
  PLAIN MATHS OF TEXTS: the first place of a byte, a text cut there, a text split at each, lines of words.
-/
import Derived.Lib.Split
namespace Go.Proofs.YtnmnbefbadhkgaaDoor
open Go

/-- What stands ahead of a byte, and behind it. -/
def cut1 (c : UInt8) : List UInt8 → Option (List UInt8 × List UInt8)
  | [] => none
  | b :: l => if b = c then some ([], l) else (cut1 c l).map fun p => (b :: p.1, p.2)
theorem cut1_some {c : UInt8} : ∀ {s a r : List UInt8}, cut1 c s = some (a, r) → s = a ++ c :: r ∧ c ∉ a
  | [], a, r, h => by cases h
  | b :: l, a, r, h => by
    unfold cut1 at h
    split at h
    · rename_i e
      cases h
      exact ⟨by rw [e]; rfl, by simp⟩
    · rename_i e
      cases hl : cut1 c l with
      | none => rw [hl] at h; cases h
      | some p =>
        rw [hl] at h
        cases h
        obtain ⟨h1, h2⟩ := cut1_some (a := p.1) (r := p.2) hl
        exact ⟨by rw [List.cons_append, ← h1], by
          intro hm
          rcases List.mem_cons.1 hm with hm | hm
          · exact e hm.symm
          · exact h2 hm⟩
theorem cut1_none {c : UInt8} : ∀ {s : List UInt8}, cut1 c s = none → c ∉ s
  | [], _ => by simp
  | b :: l, h => by
    unfold cut1 at h
    split at h
    · cases h
    · rename_i e
      have hl : cut1 c l = none := by cases hl : cut1 c l with
        | none => rfl
        | some p => rw [hl] at h; cases h
      intro hm
      rcases List.mem_cons.1 hm with hm | hm
      · exact e hm.symm
      · exact cut1_none hl hm
theorem cut1_at {c : UInt8} : ∀ {a : List UInt8} (r : List UInt8), c ∉ a → cut1 c (a ++ c :: r) = some (a, r)
  | [], r, _ => by simp [cut1]
  | b :: a, r, h => by
    have h1 : ¬ b = c := fun e => h (by simp [e])
    have h2 : c ∉ a := fun e => h (by simp [e])
    rw [List.cons_append, cut1, if_neg h1, cut1_at r h2]
    rfl
theorem cut1_not {c : UInt8} : ∀ {s : List UInt8}, c ∉ s → cut1 c s = none
  | [], _ => rfl
  | b :: l, h => by
    rw [cut1, if_neg (fun e => h (by simp [e])), cut1_not (fun e => h (by simp [e]))]
    rfl
theorem cut1_short {c : UInt8} {s a r : List UInt8} (h : cut1 c s = some (a, r)) : r.length < s.length := by
  rw [(cut1_some h).1]
  simp
  omega

theorem index_one (c : UInt8) : ∀ s : List UInt8, Lib.index s [c] = match cut1 c s with
    | some (a, _) => (a.length : Int)
    | none => -1
  | [] => rfl
  | b :: l => by
    rw [Lib.index, cut1, index_one c l]
    by_cases e : b = c
    · subst e
      simp [List.isPrefixOf]
    · have e' : ¬ c = b := fun h => e h.symm
      rw [if_neg (by simp [List.isPrefixOf, e']), if_neg e]
      cases cut1 c l with
      | none => simp
      | some p =>
        rw [if_neg (by simp)]
        simp
theorem cut_one (c : UInt8) (s : List UInt8) : Lib.cut s [c] = match cut1 c s with
    | some (a, r) => (a, r, true)
    | none => (s, [], false) := by
  unfold Lib.cut
  rw [index_one]
  cases h : cut1 c s with
  | none => simp
  | some p =>
    obtain ⟨h1, _⟩ := cut1_some (a := p.1) (r := p.2) h
    simp only
    rw [if_pos (by omega), Int.toNat_natCast]
    conv => lhs; rw [h1]
    simp

def split1 (c : UInt8) : List UInt8 → List (List UInt8)
  | [] => [[]]
  | b :: l => if b = c then [] :: split1 c l else match split1 c l with
    | [] => [[b]]
    | w :: ws => (b :: w) :: ws
theorem split1_not {c : UInt8} : ∀ {s : List UInt8}, c ∉ s → split1 c s = [s]
  | [], _ => rfl
  | b :: l, h => by rw [split1, if_neg (fun e => h (by simp [e])), split1_not (fun e => h (by simp [e]))]
theorem split1_at {c : UInt8} : ∀ {a : List UInt8} (r : List UInt8), c ∉ a → split1 c (a ++ c :: r) = a :: split1 c r
  | [], r, _ => by rw [List.nil_append, split1, if_pos rfl]
  | b :: a, r, h => by rw [List.cons_append, split1, if_neg (fun e => h (by simp [e])), split1_at r (fun e => h (by simp [e]))]
theorem split1_ne (c : UInt8) (s : List UInt8) : split1 c s ≠ [] := by
  cases h : cut1 c s with
  | none => rw [split1_not (cut1_none h)]; simp
  | some p =>
    obtain ⟨h1, h2⟩ := cut1_some (a := p.1) (r := p.2) h
    rw [h1, split1_at _ h2]
    simp
theorem split1_len (c : UInt8) : ∀ s : List UInt8, (split1 c s).length ≤ s.length + 1
  | [] => Nat.le_refl _
  | b :: l => by
    have ih := split1_len c l
    rw [split1]
    split
    · simp; omega
    · cases h : split1 c l with
      | nil => simp
      | cons w ws => rw [h] at ih; simp at ih ⊢; omega
theorem split1_mem {c : UInt8} : ∀ {s w : List UInt8}, w ∈ split1 c s → w.length ≤ s.length
  | [], w, h => by simp [split1] at h; subst h; exact Nat.le_refl _
  | b :: l, w, h => by
    rw [split1] at h
    split at h
    · rcases List.mem_cons.1 h with h | h
      · subst h; simp
      · have := split1_mem h; simp; omega
    · cases hs : split1 c l with
      | nil => exact absurd hs (split1_ne c l)
      | cons v ws =>
        rw [hs] at h
        rcases List.mem_cons.1 h with h | h
        · have := split1_mem (c := c) (s := l) (w := v) (by rw [hs]; simp)
          subst h; simp; omega
        · have := split1_mem (c := c) (s := l) (w := w) (by rw [hs]; simp [h])
          simp; omega
def join1 (c : UInt8) : List (List UInt8) → List UInt8
  | [] => []
  | [w] => w
  | w :: v :: ws => w ++ c :: join1 c (v :: ws)
theorem join1_cons (c : UInt8) (w : List UInt8) {ws : List (List UInt8)} (h : ws ≠ []) : join1 c (w :: ws) = w ++ c :: join1 c ws := by
  cases ws with
  | nil => exact absurd rfl h
  | cons v ws => rfl
theorem join_split (c : UInt8) : ∀ (n : Nat) (s : List UInt8), s.length ≤ n → join1 c (split1 c s) = s
  | 0, s, h => by
    have e := List.eq_nil_of_length_eq_zero (Nat.le_zero.1 h)
    subst e
    rfl
  | n + 1, s, h => by
    cases hc : cut1 c s with
    | none => rw [split1_not (cut1_none hc)]; rfl
    | some p =>
      obtain ⟨h1, h2⟩ := cut1_some (a := p.1) (r := p.2) hc
      have h3 := cut1_short (a := p.1) (r := p.2) hc
      conv => lhs; rw [h1]
      rw [split1_at _ h2, join1_cons c _ (split1_ne _ _), join_split c n _ (by omega)]
      exact h1.symm
/-- strings.Split at one byte. -/
theorem splitK_one (c : UInt8) : ∀ (n : Nat) (s : List UInt8), s.length ≤ n → Lib.splitK [c] 0 (Lib.count s [c]) s = split1 c s
  | 0, s, h => by
    have e := List.eq_nil_of_length_eq_zero (Nat.le_zero.1 h)
    subst e
    rw [Lib.count_miss (by rfl)]
    rfl
  | n + 1, s, h => by
    have hi := index_one c s
    cases hc : cut1 c s with
    | none =>
      rw [hc] at hi
      rw [Lib.count_miss hi, split1_not (cut1_none hc)]
      rfl
    | some p =>
      rw [hc] at hi
      dsimp only at hi
      obtain ⟨h1, h2⟩ := cut1_some (a := p.1) (r := p.2) hc
      have h3 := cut1_short (a := p.1) (r := p.2) hc
      have hd : s.drop (p.1.length + 1) = p.2 := by rw [h1]; simp
      have ht : s.take p.1.length = p.1 := by rw [h1]; simp
      rw [Lib.count_hit (by simp) hi, Nat.add_comm, Lib.splitK, if_neg (by rw [hi]; simp), hi]
      simp only [Int.toNat_natCast, List.length_singleton, Nat.add_zero]
      rw [hd, ht, splitK_one c n _ (by omega)]
      conv => rhs; rw [h1, split1_at _ h2]

/-- A text's lines, each one's words; one that is not ended has none, and is the last one. -/
def linesF : Nat → List UInt8 → List (List (List UInt8))
  | 0, _ => []
  | f + 1, s => if s = [] then [] else match cut1 10 s with
    | none => [[]]
    | some (a, r) => split1 32 a :: linesF f r
def linesS (s : List UInt8) : List (List (List UInt8)) := linesF s.length s
theorem linesF_more : ∀ (f : Nat) (s : List UInt8), s.length ≤ f → linesF f s = linesS s
  | 0, s, h => by
    have := List.eq_nil_of_length_eq_zero (Nat.le_zero.1 h)
    subst this
    rfl
  | f + 1, s, h => by
    unfold linesS
    cases s with
    | nil => rfl
    | cons b l =>
      rw [List.length_cons, linesF, linesF]
      cases hc : cut1 10 (b :: l) with
      | none => rfl
      | some p =>
        have h3 := cut1_short (a := p.1) (r := p.2) hc
        simp only [List.length_cons] at h h3
        dsimp only
        rw [linesF_more f p.2 (by omega), linesF_more l.length p.2 (by omega)]
theorem linesS_nil : linesS [] = [] := rfl
theorem linesS_cons {s : List UInt8} (h : s ≠ []) : linesS s = match cut1 10 s with
    | none => [[]]
    | some (a, r) => split1 32 a :: linesS r := by
  have := linesF_more (s.length + 1) s (by omega)
  rw [← this, linesF, if_neg h]
  cases hc : cut1 10 s with
  | none => rfl
  | some p =>
    have h3 := cut1_short (a := p.1) (r := p.2) hc
    dsimp only
    rw [linesF_more _ _ (by omega)]
theorem linesF_len : ∀ (f : Nat) (s : List UInt8), (linesF f s).length ≤ f
  | 0, _ => Nat.le_refl _
  | f + 1, s => by
    rw [linesF]
    split
    · simp
    · cases cut1 10 s with
      | none => simp
      | some p => have := linesF_len f p.2; simp; omega
theorem linesS_len (s : List UInt8) : (linesS s).length ≤ s.length := linesF_len _ _
end Go.Proofs.YtnmnbefbadhkgaaDoor
