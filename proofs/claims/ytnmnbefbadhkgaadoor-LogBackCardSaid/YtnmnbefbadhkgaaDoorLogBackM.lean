/-
  PLAIN LAW OF A LOG's BYTES: what is read was written.
-/
import Derived.Test.YtnmnbefbadhkgaaDoorLogLaw
namespace Go.Proofs.YtnmnbefbadhkgaaDoor
open Go Go.RowKit

theorem num_back {most : Nat} {r r' : Rdr} {n : Nat} (h : num most r = (n, r')) (he : r'.e = 0) : r.e = 0 ∧ r.s = enc n ++ r'.s ∧ n ≤ most ∧ n < 128 ^ 5 := by
  unfold num at h
  split at h
  · rename_i h1
    cases h
    exact absurd he h1
  · rename_i h1
    have h0 : r.e = 0 := by omega
    split at h
    · rename_i m t hg
      cases h
      obtain ⟨q, h2, h3, h4, _, h6⟩ := numGo_back most r.s 4 0 0 n t rfl hg
      have hq : q = n := by rw [h2]; simp
      subst hq
      exact ⟨h0, by rw [enc_five h4]; exact h3, h6, h4⟩
    · rename_i k hg
      cases h
      dsimp only at he
      subst he
      have : ∀ (s : List UInt8) (k n : Nat), numGo most k n s ≠ .error 0 := by
        intro s
        induction s with
        | nil => intro k n; rw [numGo_nil]; simp
        | cons b s ih =>
          intro k n
          rw [numGo_cons]
          split
          · simp
          · split
            · split
              · exact ih _ _
              · simp
            · split <;> simp
      exact absurd hg (this _ _ _)
theorem num_back' (most : Nat) (r : Rdr) (h : (num most r).2.e = 0) : r.e = 0 ∧ r.s = enc (num most r).1 ++ (num most r).2.s ∧ (num most r).1 ≤ most ∧ (num most r).1 < 128 ^ 5 :=
  num_back (n := (num most r).1) (r' := (num most r).2) rfl h
theorem nums_back {most : Nat} : ∀ (k : Nat) (r : Rdr), (nums most k r).2.e = 0 → r.e = 0 ∧ r.s = ((nums most k r).1.flatMap enc) ++ (nums most k r).2.s ∧ (∀ n ∈ (nums most k r).1, n ≤ most) ∧ (nums most k r).1.length = k
  | 0, r, h => ⟨h, rfl, (fun n hn => by cases hn), rfl⟩
  | k + 1, r, h => by
    rw [nums] at h ⊢
    dsimp only at h ⊢
    obtain ⟨h1, h2, h3, h4⟩ := nums_back k (num most r).2 h
    obtain ⟨h5, h6, h7, _⟩ := num_back' most r h1
    refine ⟨h5, ?_, ?_, by simp [h4]⟩
    · rw [h6, h2]
      simp
    · intro n hn
      rcases List.mem_cons.1 hn with e | e
      · rw [e]; exact h7
      · exact h3 n e
theorem item_back {r : Rdr} (h : (readItem r).2.e = 0) : r.e = 0 ∧ r.s = (readItem r).1.bytes ++ (readItem r).2.s ∧ (readItem r).1.may = true ∧ (readItem r).1.narrow := by
  unfold readItem at h ⊢
  dsimp only at h ⊢
  split at h
  · rename_i h0
    rw [if_pos h0]
    obtain ⟨h1, h2, _⟩ := num_back' 255 r h
    rw [h0] at h2
    exact ⟨h1, h2, rfl, by simp [Itm.narrow, Stp.zero]⟩
  · rename_i h0
    rw [if_neg h0]
    dsimp only at h ⊢
    obtain ⟨a1, a2, a3, _⟩ := num_back' maxNum _ h
    obtain ⟨b1, b2, b3, b4⟩ := nums_back _ _ a1
    obtain ⟨c1, c2, c3, _⟩ := num_back' 32 _ b1
    obtain ⟨d1, d2, d3, _⟩ := num_back' maxNum _ c1
    obtain ⟨e1, e2, e3, _⟩ := num_back' 255 _ d1
    obtain ⟨f1, f2, f3, _⟩ := num_back' 255 r e1
    have hmx : maxNum = 2147483647 := rfl
    rw [hmx] at b3
    refine ⟨f1, ?_, ?_, ?_⟩
    · unfold Itm.bytes
      simp only [Bool.false_eq_true, if_false, Int.toNat_natCast, List.length_map, b4]
      rw [f2, e2, d2, c2, b2, a2]
      have e : ∀ l : List Nat, (l.map Int.ofNat).flatMap (fun n => enc n.toNat) = l.flatMap enc := by
        intro l
        induction l with
        | nil => rfl
        | cons x l ih => rw [List.map_cons, List.flatMap_cons, List.flatMap_cons, ih]; rfl
      rw [e]
      simp
    · unfold Itm.may
      simp only [Bool.false_eq_true, if_false, Bool.and_eq_true, decide_eq_true_eq, okNum, List.length_map, b4, List.all_eq_true]
      refine ⟨⟨⟨⟨h0, by omega, by omega⟩, by omega, by omega⟩, c3⟩, fun n hn => ?_⟩
      obtain ⟨m, hm, rfl⟩ := List.mem_map.1 hn
      have := b3 m hm
      show 0 ≤ (m : Int) ∧ (m : Int) ≤ 2147483647
      omega
    · exact ⟨by dsimp only; omega, by dsimp only; omega⟩
theorem items_back : ∀ (n : Nat) (r : Rdr), (readItems n r).2.e = 0 → r.e = 0 ∧ r.s = (readItems n r).1.flatMap Itm.bytes ++ (readItems n r).2.s ∧ (∀ x ∈ (readItems n r).1, x.may = true ∧ x.narrow) ∧ (readItems n r).1.length = n
  | 0, r, h => ⟨h, rfl, (fun x hx => by cases hx), rfl⟩
  | n + 1, r, h => by
    rw [readItems] at h ⊢
    dsimp only at h ⊢
    split at h
    · rename_i h1
      exact absurd h h1
    · rename_i h1
      rw [if_neg h1]
      dsimp only at h ⊢
      obtain ⟨a1, a2, a3, a4⟩ := items_back n _ h
      obtain ⟨b1, b2, b3, b4⟩ := item_back (r := r) (by omega)
      refine ⟨b1, ?_, ?_, by simp [a4]⟩
      · rw [b2, a2]; simp
      · intro x hx
        rcases List.mem_cons.1 hx with e | e
        · rw [e]; exact ⟨b3, b4⟩
        · exact a3 x e
/-- What is decoded, encoded, is the bytes. -/
theorem readLog_back {s : List UInt8} (h : (readLog s).2 = 0) : (readLog s).1.length ≤ 4096 ∧ (∀ x ∈ (readLog s).1, x.may = true ∧ x.narrow) ∧ logBytes (readLog s).1 = s := by
  unfold readLog at h ⊢
  dsimp only at h ⊢
  split at h
  · simp at h
  · rename_i h1
    rw [if_neg h1]
    split at h
    · rename_i h2
      exact absurd h h2
    · rename_i h2
      rw [if_neg h2]
      split at h
      · simp at h
      · rename_i h3
        rw [if_neg h3]
        dsimp only
        obtain ⟨a1, a2, a3, a4⟩ := items_back (num maxNum ⟨s, 0⟩).1 (num maxNum ⟨s, 0⟩).2 (by omega)
        obtain ⟨b1, b2, _⟩ := num_back' maxNum ⟨s, 0⟩ a1
        have h3' : (readItems (num maxNum ⟨s, 0⟩).1 (num maxNum ⟨s, 0⟩).2).2.s = [] := by simpa using h3
        refine ⟨by rw [a4]; omega, a3, ?_⟩
        unfold logBytes
        rw [a4]
        rw [h3', List.append_nil] at a2
        rw [← a2]
        exact b2.symm
end Go.Proofs.YtnmnbefbadhkgaaDoor
