/-
  Outcomes joined and captured: the plain law.
-/
import Derived.Test.YtnmnbefbadhkgaaDoorSpanM
import Derived.Test.YtnmnbefbadhkgaaDoorCapture
namespace Go.Proofs.YtnmnbefbadhkgaaDoor

theorem join_assoc (a b c : Out) : joinO (joinO a b) c = joinO a (joinO b c) := by
  unfold joinO
  cases a.ok <;> cases b.ok <;> cases c.ok <;> simp [List.append_assoc]

theorem popped_all (fr : Int) : ∀ (st : List Int), (∀ x ∈ st, x ≤ fr) → popped fr st = []
  | [], _ => rfl
  | x :: st, h => by
    rw [popped, if_pos (h x (by simp))]
    exact popped_all fr st fun y hy => h y (List.mem_cons_of_mem _ hy)

theorem mayGo_cons (to : Int) (c : Cap) (cs : List Cap) (st : List Int) (f : Int) :
    mayGo to (c :: cs) st f = true ↔ nameMay c.name.data.toList = true ∧ f ≤ c.fr ∧ c.fr ≤ c.to ∧ c.to ≤ mostOf to (popped c.fr st) ∧ mayGo to cs (c.to :: popped c.fr st) c.fr = true := by
  rw [mayGo]
  split
  · rename_i h
    simp only [Bool.and_eq_true, decide_eq_true_eq] at h
    exact ⟨fun g => ⟨h.1, h.2.1, h.2.2.1, h.2.2.2, g⟩, fun g => g.2.2.2.2⟩
  · rename_i h
    refine ⟨fun g => by simp at g, fun g => absurd ?_ h⟩
    simp only [Bool.and_eq_true, decide_eq_true_eq]
    exact ⟨g.1, g.2.1, g.2.2.1, g.2.2.2.1⟩

theorem mostOf_le {to to' : Int} (h : to ≤ to') : ∀ st : List Int, mostOf to st ≤ mostOf to' st
  | [] => h
  | _ :: _ => Int.le_refl _

/-- One row of captures behind another one. -/
theorem mayGo_app {to to' m : Int} (ht : to ≤ to') (hm : to ≤ m) (ds : List Cap) (hd : mayGo to' ds [] 0 = true) (hdm : ∀ d ds', ds = d :: ds' → m ≤ d.fr) :
    ∀ (cs : List Cap) (st : List Int) (f : Int), mayGo to cs st f = true → (∀ x ∈ st, x ≤ to) → f ≤ to → mayGo to' (cs ++ ds) st f = true
  | [], st, f, _, hst, hf => by
    cases ds with
    | nil => rfl
    | cons d ds' =>
      have hdf := hdm d ds' rfl
      rw [List.nil_append]
      rw [mayGo_cons] at hd ⊢
      rw [popped_all d.fr st fun x hx => by have := hst x hx; omega]
      exact ⟨hd.1, by omega, hd.2.2.1, hd.2.2.2.1, hd.2.2.2.2⟩
  | c :: cs, st, f, h, hst, hf => by
    rw [List.cons_append]
    rw [mayGo_cons] at h ⊢
    have hmo : mostOf to (popped c.fr st) ≤ to := by
      cases hp : popped c.fr st with
      | nil => exact Int.le_refl _
      | cons x r => exact hst x (popped_mem c.fr st x (by rw [hp]; simp))
    have hml := mostOf_le ht (popped c.fr st)
    refine ⟨h.1, h.2.1, h.2.2.1, by omega, mayGo_app ht hm ds hd hdm cs _ _ h.2.2.2.2 (fun x hx => ?_) (by omega)⟩
    rcases List.mem_cons.1 hx with rfl | hx
    · omega
    · exact hst x (popped_mem c.fr st x hx)

theorem join_may (a b : Out) (ha : mayB a 4096 = true) (hb : mayB b 4096 = true) (hj : (joinO a b).ok = true) (h1 : a.to ≤ firstO b) (h2 : a.to ≤ b.to) (hc : a.caps.length + b.caps.length ≤ 65536) : mayB (joinO a b) 4096 = true := by
  have hok : a.ok = true ∧ b.ok = true := by
    unfold joinO at hj
    split at hj
    · rename_i h; simpa using h
    · cases hj
  have hA := (good_iff a 4096 hok.1).1 ha
  have hB := (good_iff b 4096 hok.2).1 hb
  have e : joinO a b = ⟨true, b.to, a.caps ++ b.caps⟩ := by unfold joinO; rw [if_pos (by simp [hok])]
  rw [e]
  refine (good_iff _ 4096 rfl).2 ⟨rfl, by omega, by omega, hB.t0, hB.t1, by simpa using hc, ?_⟩
  refine mayGo_app h2 (Int.le_refl _) b.caps hB.go (fun d ds' hd => ?_) a.caps [] 0 hA.go (by simp) hA.t0
  unfold firstO at h1
  rw [hd] at h1
  exact h1

/-- A place within the whole outcome does not change who may stand. -/
theorem mayGo_whole (to : Int) : ∀ (cs : List Cap) (st st' : List Int) (f : Int), (st' = st ∨ st' = st ++ [to]) → (mayGo to cs st' f = true ↔ mayGo to cs st f = true)
  | [], _, _, _, _ => by simp [mayGo]
  | c :: cs, st, st', f, h => by
    rcases h with rfl | rfl
    · exact Iff.rfl
    · rw [mayGo_cons, mayGo_cons]
      have hp : popped c.fr (st ++ [to]) = popped c.fr st ++ [to] ∨ (popped c.fr st = [] ∧ popped c.fr (st ++ [to]) = []) := by
        induction st with
        | nil =>
          by_cases h : to ≤ c.fr
          · right; exact ⟨rfl, by simp [popped, h]⟩
          · left; simp [popped, h]
        | cons x st ih =>
          simp only [List.cons_append, popped]
          split
          · exact ih
          · left; simp
      rcases hp with hp | ⟨hp1, hp2⟩
      · have hm : mostOf to (popped c.fr (st ++ [to])) = mostOf to (popped c.fr st) := by
          rw [hp]
          cases popped c.fr st <;> rfl
        rw [hm, hp]
        have := mayGo_whole to cs (c.to :: popped c.fr st) (c.to :: (popped c.fr st ++ [to])) c.fr (.inr rfl)
        rw [this]
      · rw [hp1, hp2]

theorem mayGo_from (to : Int) (cs : List Cap) (st : List Int) (f : Int) (h : mayGo to cs st 0 = true) (g : ∀ c cs', cs = c :: cs' → f ≤ c.fr) : mayGo to cs st f = true := by
  cases cs with
  | nil => rfl
  | cons c cs =>
    rw [mayGo_cons] at h ⊢
    exact ⟨h.1, g c cs rfl, h.2.2⟩

theorem cap_may (a : Out) (s : ByteArray) (fr : Int) (ha : mayB a 4096 = true) (hok : a.ok = true) (hc : a.caps.length + 1 ≤ 65536) :
    mayB (capO s fr a) 4096 = (nameMay s.data.toList && (decide (0 ≤ fr) && (decide (fr ≤ a.to) && decide (fr ≤ firstO a)))) := by
  have hA := (good_iff a 4096 hok).1 ha
  have e : capO s fr a = ⟨true, a.to, ⟨s, fr, a.to⟩ :: a.caps⟩ := by unfold capO; rw [if_pos hok]
  rw [e, Bool.eq_iff_iff]
  rw [good_iff _ 4096 rfl]
  simp only [Bool.and_eq_true, decide_eq_true_eq]
  constructor
  · intro g
    have hg := g.go
    rw [mayGo_cons] at hg
    refine ⟨hg.1, hg.2.1, hg.2.2.1, ?_⟩
    have h2 := hg.2.2.2.2
    unfold firstO
    cases hcs : a.caps with
    | nil => exact hg.2.2.1
    | cons c cs =>
      simp only [hcs] at h2
      rw [mayGo_cons] at h2
      exact h2.2.1
  · rintro ⟨g1, g2, g3, g4⟩
    refine ⟨rfl, by omega, by omega, hA.t0, hA.t1, by simpa using hc, ?_⟩
    rw [mayGo_cons]
    refine ⟨g1, g2, g3, Int.le_refl _, ?_⟩
    have := (mayGo_whole a.to a.caps [] [a.to] fr (.inr rfl)).2 (mayGo_from a.to a.caps [] fr hA.go fun c cs' hcs => by
      unfold firstO at g4
      rw [hcs] at g4
      exact g4)
    simpa [popped] using this
end Go.Proofs.YtnmnbefbadhkgaaDoor
