/-
  PLAIN LAW OF OUTCOMES' TEXTS: there and back.
-/
import Derived.Test.YtnmnbefbadhkgaaDoorSpanParse
import Derived.Test.YtnmnbefbadhkgaaDoorShow
import Derived.Test.YtnmnbefbadhkgaaDoorDigits
namespace Go.Proofs.YtnmnbefbadhkgaaDoor
open Go Go.RowKit

theorem takeN_mem : ∀ (i : Nat) (l : List UInt8), takeN i l = l.length → ∀ b ∈ l, letterB b.toNat = true ∨ digitB b.toNat = true
  | _, [], _, b, hb => by cases hb
  | i, x :: l, h, b, hb => by
    rw [takeN] at h
    split at h
    · rename_i hc
      rcases List.mem_cons.1 hb with e | e
      · subst e
        simp only [Bool.or_eq_true, Bool.and_eq_true] at hc
        rcases hc with hc | hc
        · exact .inl hc
        · exact .inr hc.2
      · exact takeN_mem (i + 1) l (by simp at h; omega) b e
    · simp at h
theorem name_not {l : List UInt8} (h : nameMay l = true) : (32 : UInt8) ∉ l ∧ (10 : UInt8) ∉ l := by
  simp only [nameMay, Bool.and_eq_true, decide_eq_true_eq] at h
  have hm := takeN_mem 0 l h.2.2
  constructor
  · intro hx
    have := hm _ hx
    revert this
    decide +kernel
  · intro hx
    have := hm _ hx
    revert this
    decide +kernel

theorem showCap_line {c : Cap} (h : 0 ≤ c.fr ∧ 0 ≤ c.to ∧ nameMay c.name.data.toList = true) (r : List UInt8) :
    linesS (showCap c ++ r) = [c.name.data.toList, Lib.decDigits c.fr.toNat, Lib.decDigits c.to.toNat] :: linesS r := by
  obtain ⟨h0, h1, h2⟩ := h
  obtain ⟨n1, n2⟩ := name_not h2
  have d1 : ∀ u, (32 : UInt8) ∉ Lib.decDigits u := fun u => dec_not (.inl (by decide))
  have d2 : ∀ u, (10 : UInt8) ∉ Lib.decDigits u := fun u => dec_not (.inl (by decide))
  have e : showCap c ++ r = (c.name.data.toList ++ 32 :: (Lib.decDigits c.fr.toNat ++ 32 :: Lib.decDigits c.to.toNat)) ++ 10 :: r := by
    unfold showCap
    rw [itoa_pos h0, itoa_pos h1]
    simp
  rw [e, linesS_cons (by simp), cut1_at _ (by
    intro hx
    simp only [List.mem_append, List.mem_cons] at hx
    rcases hx with hx | hx | hx | hx | hx
    · exact n2 hx
    · exact absurd hx (by decide)
    · exact d2 _ hx
    · exact absurd hx (by decide)
    · exact d2 _ hx)]
  dsimp only
  rw [split1_at _ n1, split1_at _ (d1 _), split1_not (d1 _)]
theorem showCaps_lines : ∀ (cs : List Cap), (∀ c ∈ cs, 0 ≤ c.fr ∧ 0 ≤ c.to ∧ nameMay c.name.data.toList = true) →
    linesS (cs.flatMap showCap) = cs.map fun c => [c.name.data.toList, Lib.decDigits c.fr.toNat, Lib.decDigits c.to.toNat]
  | [], _ => rfl
  | c :: cs, h => by
    rw [List.flatMap_cons, showCap_line (h c (by simp)), showCaps_lines cs fun x hx => h x (by simp [hx]), List.map_cons]
theorem showHead_line {tt : Int} (h : 0 ≤ tt) (r : List UInt8) : linesS (showHead tt ++ r) = [matchW, Lib.decDigits tt.toNat] :: linesS r := by
  have e : showHead tt ++ r = (matchW ++ 32 :: Lib.decDigits tt.toNat) ++ 10 :: r := by
    unfold showHead matchW
    rw [itoa_pos h]
    simp
  rw [e, linesS_cons (by simp), cut1_at _ (by
    intro hx
    simp only [List.mem_append, List.mem_cons] at hx
    rcases hx with hx | hx | hx
    · revert hx; decide
    · exact absurd hx (by decide)
    · exact dec_not (.inl (by decide)) hx)]
  dsimp only
  rw [split1_at _ (by decide), split1_not (dec_not (.inl (by decide)))]
theorem runP_caps (tt : Int) : ∀ (cs pre : List Cap), (∀ c ∈ cs, 0 ≤ c.fr ∧ c.fr ≤ 4096 ∧ 0 ≤ c.to ∧ c.to ≤ 4096) →
    runP ⟨true, tt, pre⟩ (cs.map fun c => [c.name.data.toList, Lib.decDigits c.fr.toNat, Lib.decDigits c.to.toNat]) = some ⟨true, tt, pre ++ cs⟩
  | [], pre, _ => by simp [runP]
  | c :: cs, pre, h => by
    obtain ⟨h0, h1, h2, h3⟩ := h c (by simp)
    have e : stepP ⟨true, tt, pre⟩ [c.name.data.toList, Lib.decDigits c.fr.toNat, Lib.decDigits c.to.toNat] = some ⟨true, tt, pre ++ [c]⟩ := by
      rw [stepP3, numS_dec _ _ (by omega), numS_dec _ _ (by omega), if_pos ⟨rfl, rfl, rfl⟩, str_back, Int.toNat_of_nonneg h0, Int.toNat_of_nonneg h2]
    rw [List.map_cons, runP, e]
    dsimp only
    rw [runP_caps tt cs (pre ++ [c]) fun x hx => h x (by simp [hx])]
    simp

/-- What was shown is parsed as it was. -/
theorem parse_show (o : Out) (hm : mayB o 4096 = true) : parseS (showOut o) = some o := by
  obtain ⟨ok, tt, caps⟩ := o
  cases ok
  · have h : tt = 0 ∧ caps = [] := by
      simp only [mayB, Bool.and_eq_true, decide_eq_true_eq, Bool.false_eq_true, if_false, beq_iff_eq] at hm
      exact ⟨hm.2.2.1, List.eq_nil_of_length_eq_zero hm.2.2.2⟩
    obtain ⟨rfl, rfl⟩ := h
    rfl
  · have hg := (good_iff _ _ rfl).1 hm
    have hc := hg.caps
    have h0 : 0 ≤ tt := hg.t0
    have h1 : tt ≤ 4096 := hg.t1
    have hcap : ∀ c ∈ caps, 0 ≤ c.fr ∧ c.fr ≤ 4096 ∧ 0 ≤ c.to ∧ c.to ≤ 4096 := fun c hx => by
      obtain ⟨a, b, d, _⟩ := hc c hx
      dsimp only at d
      omega
    unfold parseS showOut
    rw [if_neg (by unfold showHead; simp)]
    simp only [if_true]
    rw [showHead_line h0, showCaps_lines caps fun c hx => ⟨(hcap c hx).1, (hcap c hx).2.2.1, (hc c hx).2.2.2⟩]
    have e : stepP ⟨false, 0, []⟩ [matchW, Lib.decDigits tt.toNat] = some ⟨true, tt, []⟩ := by
      rw [stepP2, numS_dec _ _ (by omega), if_pos ⟨rfl, rfl, rfl⟩, Int.toNat_of_nonneg h0]
    rw [runP, e]
    dsimp only
    rw [runP_caps tt caps [] hcap, List.nil_append]
    dsimp only
    rw [hm]
    rfl

/-! ### back -/
theorem lines_join : ∀ (n : Nat) (s : List UInt8), s.length ≤ n → (∀ w ∈ linesS s, w ≠ []) → s = (linesS s).flatMap fun ws => join1 32 ws ++ [10]
  | 0, s, h, _ => by
    have e := List.eq_nil_of_length_eq_zero (Nat.le_zero.1 h)
    subst e
    rfl
  | n + 1, s, h, hw => by
    by_cases hs : s = []
    · subst hs; rfl
    · rw [linesS_cons hs] at hw ⊢
      cases hc : cut1 10 s with
      | none => rw [hc] at hw; exact absurd rfl (hw [] (by simp))
      | some p =>
        obtain ⟨a, r⟩ := p
        rw [hc] at hw
        dsimp only at hw ⊢
        obtain ⟨h1, _⟩ := cut1_some hc
        have h3 := cut1_short hc
        rw [List.flatMap_cons, join_split 32 a.length a (Nat.le_refl _), ← lines_join n r (by omega) fun w hx => hw w (by simp [hx])]
        rw [h1]
        simp
theorem stepP_some {o o' : Out} {ws : List (List UInt8)} (h : stepP o ws = some o') :
    (o.ok = false ∧ ∃ n : Nat, ws = [matchW, Lib.decDigits n] ∧ o' = ⟨true, n, o.caps⟩) ∨ (o.ok = true ∧ ∃ c : Cap, 0 ≤ c.fr ∧ 0 ≤ c.to ∧ ws = [c.name.data.toList, Lib.decDigits c.fr.toNat, Lib.decDigits c.to.toNat] ∧ o' = ⟨true, o.to, o.caps ++ [c]⟩) := by
  match ws, h with
  | [], h => cases h
  | [_], h => cases h
  | [a, b], h =>
    rw [stepP2] at h
    split at h
    · rename_i hc
      cases h
      exact .inl ⟨hc.1, _, by rw [hc.2.1, ← numS_back hc.2.2], rfl⟩
    · cases h
  | [a, b, c], h =>
    rw [stepP3] at h
    split at h
    · rename_i hc
      cases h
      refine .inr ⟨hc.1, ⟨⟨a.toArray⟩, (numS 4096 b).1, (numS 4096 c).1⟩, by dsimp only; omega, by dsimp only; omega, ?_, rfl⟩
      dsimp only
      rw [Int.toNat_natCast, Int.toNat_natCast, ← numS_back hc.2.1, ← numS_back hc.2.2]
    · cases h
  | _ :: _ :: _ :: _ :: _, h => cases h
theorem runP_some : ∀ (L : List (List (List UInt8))) (tt : Int) (pre : List Cap) (o : Out), runP ⟨true, tt, pre⟩ L = some o →
    (∀ w ∈ L, w ≠ []) ∧ ∃ cs : List Cap, o = ⟨true, tt, pre ++ cs⟩ ∧ (L.flatMap fun ws => join1 32 ws ++ [10]) = cs.flatMap showCap
  | [], tt, pre, o, h => by cases h; exact ⟨(fun w hw => by cases hw), [], by simp, rfl⟩
  | w :: L, tt, pre, o, h => by
    rw [runP] at h
    cases hs : stepP ⟨true, tt, pre⟩ w with
    | none => rw [hs] at h; cases h
    | some o1 =>
      rw [hs] at h
      rcases stepP_some hs with ⟨hf, _⟩ | ⟨_, c, h0, h1, hw, ho⟩
      · cases hf
      · subst ho hw
        obtain ⟨h3, cs, h4, h5⟩ := runP_some L tt (pre ++ [c]) o h
        refine ⟨fun v hv => ?_, c :: cs, by rw [h4]; simp, ?_⟩
        · rcases List.mem_cons.1 hv with e | e
          · subst e; simp
          · exact h3 v e
        · rw [List.flatMap_cons, List.flatMap_cons, h5]
          congr 1
          unfold showCap
          rw [itoa_pos h0, itoa_pos h1]
          simp [join1]
/-- What is parsed may be, and, shown, is the text. -/
theorem show_parse {s : List UInt8} {o : Out} (h : parseS s = some o) : mayB o 4096 = true ∧ showOut o = s := by
  unfold parseS at h
  split at h
  · rename_i e
    cases h
    exact ⟨by decide +kernel, e.symm⟩
  · cases hr : runP ⟨false, 0, []⟩ (linesS s) with
    | none => rw [hr] at h; cases h
    | some o1 =>
      rw [hr] at h
      dsimp only at h
      split at h
      · rename_i hc
        cases h
        simp only [Bool.and_eq_true] at hc
        refine ⟨hc.2, ?_⟩
        cases hL : linesS s with
        | nil => rw [hL, runP] at hr; cases hr; cases hc.1
        | cons w L =>
          rw [hL, runP] at hr
          cases hs : stepP ⟨false, 0, []⟩ w with
          | none => rw [hs] at hr; cases hr
          | some o2 =>
            rw [hs] at hr
            rcases stepP_some hs with ⟨_, n, hw, ho⟩ | ⟨hf, _⟩
            · subst ho
              obtain ⟨h3, cs, h4, h5⟩ := runP_some L _ _ _ hr
              subst h4
              have hj := lines_join s.length s (Nat.le_refl _) (by
                rw [hL]
                intro v hv
                rcases List.mem_cons.1 hv with e | e
                · subst e; rw [hw]; simp
                · exact h3 v e)
              rw [hj, hL, List.flatMap_cons, h5, hw]
              unfold showOut showHead
              rw [itoa_nat]
              simp [join1, matchW]
            · cases hf
      · cases h
end Go.Proofs.YtnmnbefbadhkgaaDoor
