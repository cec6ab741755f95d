/-
  PLAIN LAWS on outcomes: what may be, moved, may be as far; what was moved back is as it was.
-/
import Derived.Test.YtnmnbefbadhkgaaDoorSpanB
namespace Go.Proofs.YtnmnbefbadhkgaaDoor

def Cap.mv (by_ : Int) (c : Cap) : Cap := ⟨c.name, c.fr + by_, c.to + by_⟩
def Out.mv (by_ : Int) (o : Out) : Out := ⟨o.ok, o.to + by_, o.caps.map (Cap.mv by_)⟩
def leastOf (to : Int) (cs : List Cap) : Int := cs.foldl (fun l c => min l c.fr) to

theorem popped_mv (by_ fr : Int) (st : List Int) : popped (fr + by_) (st.map (· + by_)) = (popped fr st).map (· + by_) := by
  induction st with
  | nil => rfl
  | cons x st ih =>
    simp only [List.map_cons, popped]
    by_cases h : x ≤ fr
    · rw [if_pos h, if_pos (by omega)]; exact ih
    · rw [if_neg h, if_neg (by omega)]; rfl
theorem mostOf_mv (by_ to : Int) (st : List Int) : mostOf (to + by_) (st.map (· + by_)) = mostOf to st + by_ := by
  cases st <;> rfl

/-- Moved captures may be just as the others, once the first one's place is no bound any more. -/
theorem mayGo_mv (by_ to : Int) : ∀ (cs : List Cap) (st : List Int) (f f' : Int), (∀ c ∈ cs, f ≤ c.fr ↔ f' ≤ c.fr + by_) → mayGo (to + by_) (cs.map (Cap.mv by_)) (st.map (· + by_)) f' = mayGo to cs st f
  | [], _, _, _, _ => rfl
  | c :: cs, st, f, f', h => by
    have h0 := h c (by simp)
    simp only [List.map_cons, mayGo, Cap.mv, popped_mv, mostOf_mv]
    have e : (nameMay c.name.data.toList && (decide (f' ≤ c.fr + by_) && (decide (c.fr + by_ ≤ c.to + by_) && decide (c.to + by_ ≤ mostOf to (popped c.fr st) + by_)))) =
        (nameMay c.name.data.toList && (decide (f ≤ c.fr) && (decide (c.fr ≤ c.to) && decide (c.to ≤ mostOf to (popped c.fr st))))) := by
      congr 1
      rw [Bool.eq_iff_iff]
      simp only [Bool.and_eq_true, decide_eq_true_eq]
      omega
    rw [e]
    split
    · have := mayGo_mv by_ to cs (c.to :: popped c.fr st) c.fr (c.fr + by_) (fun d _ => by omega)
      simpa [Cap.mv] using this
    · rfl

theorem popped_mem (fr : Int) : ∀ (st : List Int) (x : Int), x ∈ popped fr st → x ∈ st
  | [], _, h => by simp [popped] at h
  | y :: st, x, h => by
    simp only [popped] at h
    split at h
    · exact List.mem_cons_of_mem _ (popped_mem fr st x h)
    · exact h

/-- Captures that may be stand in a row, within the outcome. -/
theorem mayGo_in (to : Int) : ∀ (cs : List Cap) (st : List Int) (f : Int), mayGo to cs st f = true → (∀ x ∈ st, x ≤ to) → ∀ c ∈ cs, f ≤ c.fr ∧ c.fr ≤ c.to ∧ c.to ≤ to ∧ nameMay c.name.data.toList = true
  | [], _, _, _, _, c, hc => by simp at hc
  | d :: cs, st, f, h, hst, c, hc => by
    simp only [mayGo] at h
    split at h
    · rename_i hd
      simp only [Bool.and_eq_true, decide_eq_true_eq] at hd
      have hm : mostOf to (popped d.fr st) ≤ to := by
        cases hp : popped d.fr st with
        | nil => exact Int.le_refl _
        | cons x r => exact hst x (popped_mem d.fr st x (by rw [hp]; simp))
      have hd2 : d.to ≤ to := by omega
      rcases List.mem_cons.1 hc with rfl | hc
      · exact ⟨hd.2.1, hd.2.2.1, hd2, hd.1⟩
      · have := mayGo_in to cs (d.to :: popped d.fr st) d.fr h (fun x hx => by
          rcases List.mem_cons.1 hx with rfl | hx
          · exact hd2
          · exact hst x (popped_mem d.fr st x hx)) c hc
        exact ⟨by omega, this.2.1, this.2.2.1, this.2.2.2⟩
    · cases h

theorem leastOf_le (to : Int) (cs : List Cap) : leastOf to cs ≤ to ∧ ∀ c ∈ cs, leastOf to cs ≤ c.fr := by
  induction cs generalizing to with
  | nil => exact ⟨Int.le_refl _, fun c hc => by simp at hc⟩
  | cons d cs ih =>
    have h := ih (min to d.fr)
    have e : leastOf to (d :: cs) = leastOf (min to d.fr) cs := rfl
    rw [e]
    refine ⟨by have := h.1; omega, fun c hc => ?_⟩
    rcases List.mem_cons.1 hc with rfl | hc
    · have := h.1; omega
    · exact h.2 c hc
theorem leastOf_ge (to m : Int) (cs : List Cap) (h : m ≤ to) (hc : ∀ c ∈ cs, m ≤ c.fr) : m ≤ leastOf to cs := by
  induction cs generalizing to with
  | nil => exact h
  | cons d cs ih =>
    have e : leastOf to (d :: cs) = leastOf (min to d.fr) cs := rfl
    rw [e]
    exact ih _ (by have := hc d (by simp); omega) (fun c h' => hc c (List.mem_cons_of_mem _ h'))
theorem leastOf_mv (by_ to : Int) (cs : List Cap) : leastOf (to + by_) (cs.map (Cap.mv by_)) = leastOf to cs + by_ := by
  induction cs generalizing to with
  | nil => rfl
  | cons d cs ih =>
    have e : leastOf to (d :: cs) = leastOf (min to d.fr) cs := rfl
    have e2 : leastOf (to + by_) ((d :: cs).map (Cap.mv by_)) = leastOf (min (to + by_) (d.fr + by_)) (cs.map (Cap.mv by_)) := rfl
    rw [e, e2, ← ih]
    congr 1
    omega

structure Good (o : Out) (n : Int) : Prop where
  ok : o.ok = true
  n0 : 0 ≤ n
  n1 : n ≤ 4096
  t0 : 0 ≤ o.to
  t1 : o.to ≤ n
  cnt : o.caps.length ≤ 65536
  go : mayGo o.to o.caps [] 0 = true
theorem good_iff (o : Out) (n : Int) (hok : o.ok = true) : mayB o n = true ↔ Good o n := by
  constructor
  · intro h
    simp only [mayB, hok, if_true, Bool.and_eq_true, decide_eq_true_eq] at h
    exact ⟨hok, h.1, h.2.1, h.2.2.1, h.2.2.2.1, h.2.2.2.2.1, h.2.2.2.2.2⟩
  · intro h
    simp only [mayB, hok, if_true, Bool.and_eq_true, decide_eq_true_eq]
    exact ⟨h.n0, h.n1, h.t0, h.t1, h.cnt, h.go⟩
theorem Good.caps {o : Out} {n : Int} (h : Good o n) : ∀ c ∈ o.caps, 0 ≤ c.fr ∧ c.fr ≤ c.to ∧ c.to ≤ o.to ∧ nameMay c.name.data.toList = true :=
  mayGo_in o.to o.caps [] 0 h.go (by simp)
theorem Good.least {o : Out} {n : Int} (h : Good o n) : 0 ≤ leastOf o.to o.caps ∧ leastOf o.to o.caps ≤ o.to :=
  ⟨leastOf_ge _ _ _ h.t0 fun c hc => (h.caps c hc).1, (leastOf_le _ _).1⟩
theorem Good.at_ {o : Out} {n m : Int} (h : Good o n) (h0 : o.to ≤ m) (h1 : m ≤ 4096) : Good o m := ⟨h.ok, by have := h.t0; omega, h1, h.t0, h0, h.cnt, h.go⟩
/-- Moved within bounds it may be as far. -/
theorem Good.mv {o : Out} {n : Int} (h : Good o n) {by_ : Int} (h0 : -(leastOf o.to o.caps) ≤ by_) (h1 : o.to + by_ ≤ 4096) : Good (o.mv by_) (o.to + by_) := by
  have hl := leastOf_le o.to o.caps
  have hlo := h.least
  refine ⟨h.ok, by omega, h1, by show 0 ≤ o.to + by_; omega, Int.le_refl _, by simpa [Out.mv] using h.cnt, ?_⟩
  have := mayGo_mv by_ o.to o.caps [] 0 0 (fun c hc => by have := hl.2 c hc; have := (h.caps c hc).1; omega)
  simpa [Out.mv] using this.trans h.go
theorem mv_mv (by_ : Int) (o : Out) : (o.mv by_).mv (-by_) = o := by
  obtain ⟨ok, to, caps⟩ := o
  have e : ∀ c : Cap, Cap.mv (-by_) (Cap.mv by_ c) = c := fun c => by
    obtain ⟨n, f, t⟩ := c
    simp only [Cap.mv, Cap.mk.injEq, true_and]
    omega
  simp only [Out.mv, Out.mk.injEq, List.map_map, true_and]
  exact ⟨by omega, by rw [show (Cap.mv (-by_) ∘ Cap.mv by_) = id from funext e]; simp⟩
end Go.Proofs.YtnmnbefbadhkgaaDoor
