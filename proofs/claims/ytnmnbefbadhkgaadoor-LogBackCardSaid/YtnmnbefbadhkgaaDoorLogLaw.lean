/-
  PLAIN MATHS: what was encoded is decoded; a beginning of it is short.
-/
import Derived.Test.YtnmnbefbadhkgaaDoorLogM
namespace Go.Proofs.YtnmnbefbadhkgaaDoor
open Go Go.RowKit

def Itm.narrow (x : Itm) : Prop := x.step.pass < 256 ∧ x.step.way < 256

theorem nums_enc (rest : List UInt8) : ∀ (l : List Int), (∀ n ∈ l, okNum n = true) → nums maxNum l.length ⟨(l.flatMap fun n => enc n.toNat) ++ rest, 0⟩ = (l.map Int.toNat, ⟨rest, 0⟩)
  | [], _ => by simp [nums]
  | n :: l, h => by
    have hn := h n (by simp)
    simp only [okNum, Bool.and_eq_true, decide_eq_true_eq] at hn
    rw [List.flatMap_cons, List.append_assoc, List.length_cons, nums, num_enc maxNum n.toNat _ (by unfold maxNum; omega) (by decide)]
    dsimp only
    rw [nums_enc rest l (fun m hm => h m (List.mem_cons_of_mem _ hm))]
    rfl

theorem map_toNat_back : ∀ (l : List Int), (∀ n ∈ l, okNum n = true) → (l.map Int.toNat).map Int.ofNat = l
  | [], _ => rfl
  | n :: l, h => by
    have hn := h n (by simp)
    simp only [okNum, Bool.and_eq_true, decide_eq_true_eq] at hn
    rw [List.map_cons, List.map_cons, map_toNat_back l (fun m hm => h m (List.mem_cons_of_mem _ hm))]
    congr 1
    simp
    omega

theorem may_mark {x : Itm} (h : x.may = true) (hm : x.mark = true) : x = ⟨true, Stp.zero⟩ := by
  obtain ⟨m, ⟨p, y, r, l, t⟩⟩ := x
  dsimp only at hm
  subst hm
  simp only [Itm.may, if_true, Bool.and_eq_true, decide_eq_true_eq, List.isEmpty_iff] at h
  obtain ⟨⟨⟨⟨h1, h2⟩, h3⟩, h4⟩, h5⟩ := h
  subst h1 h2 h3 h4 h5
  rfl
theorem may_step {x : Itm} (h : x.may = true) (hm : x.mark = false) : x.step.pass ≠ 0 ∧ okNum x.step.rule = true ∧ okNum x.step.at_ = true ∧ x.step.path.length ≤ 32 ∧ ∀ n ∈ x.step.path, okNum n = true := by
  unfold Itm.may at h
  rw [hm] at h
  simp only [Bool.false_eq_true, if_false, Bool.and_eq_true, decide_eq_true_eq, List.all_eq_true] at h
  obtain ⟨⟨⟨⟨h1, h2⟩, h3⟩, h4⟩, h5⟩ := h
  exact ⟨h1, h2, h3, h4, h5⟩

theorem readItem_bytes (x : Itm) (rest : List UInt8) (h : x.may = true) (hn : x.narrow) : readItem ⟨x.bytes ++ rest, 0⟩ = (x, ⟨rest, 0⟩) := by
  cases hm : x.mark
  · obtain ⟨h1, h2, h3, h4, h5⟩ := may_step h hm
    have e : x.bytes ++ rest = enc x.step.pass ++ (enc x.step.way ++ (enc x.step.rule.toNat ++ (enc x.step.path.length ++ ((x.step.path.flatMap fun n => enc n.toNat) ++ (enc x.step.at_.toNat ++ rest))))) := by
      unfold Itm.bytes
      rw [hm]
      simp
    have hr := h2
    have ht := h3
    simp only [okNum, Bool.and_eq_true, decide_eq_true_eq] at hr ht
    unfold readItem
    rw [e, num_enc 255 _ _ (by have := hn.1; omega) (by decide)]
    dsimp only
    rw [if_neg h1, num_enc 255 _ _ (by have := hn.2; omega) (by decide)]
    dsimp only
    rw [num_enc maxNum _ _ (by unfold maxNum; omega) (by decide)]
    dsimp only
    rw [num_enc 32 _ _ h4 (by decide)]
    dsimp only
    rw [nums_enc _ _ h5]
    dsimp only
    rw [num_enc maxNum _ _ (by unfold maxNum; omega) (by decide)]
    dsimp only
    rw [map_toNat_back _ h5]
    obtain ⟨m, ⟨p, y, r, l, t⟩⟩ := x
    dsimp only at *
    subst hm
    rw [Int.toNat_of_nonneg hr.1, Int.toNat_of_nonneg ht.1]
  · have hx := may_mark h hm
    subst hx
    have e : Itm.bytes ⟨true, Stp.zero⟩ ++ rest = enc 0 ++ rest := rfl
    unfold readItem
    rw [e, num_enc 255 0 rest (by omega) (by decide)]
    rfl

theorem readItems_bytes (rest : List UInt8) : ∀ (l : List Itm), (∀ x ∈ l, x.may = true ∧ x.narrow) → readItems l.length ⟨l.flatMap Itm.bytes ++ rest, 0⟩ = (l, ⟨rest, 0⟩)
  | [], _ => by simp [readItems]
  | x :: l, h => by
    obtain ⟨h1, h2⟩ := h x (by simp)
    rw [List.flatMap_cons, List.append_assoc, List.length_cons, readItems, readItem_bytes x _ h1 h2]
    dsimp only
    rw [if_neg (by simp), readItems_bytes rest l (fun y hy => h y (List.mem_cons_of_mem _ hy))]

/-- What was encoded, and something behind it. -/
theorem readLog_bytes (l : List Itm) (rest : List UInt8) (hl : l.length ≤ 4096) (h : ∀ x ∈ l, x.may = true ∧ x.narrow) : readLog (logBytes l ++ rest) = if rest = [] then (l, 0) else ([], 10) := by
  unfold readLog logBytes
  rw [List.append_assoc, num_enc maxNum _ _ (by unfold maxNum; omega) (by decide)]
  dsimp only
  rw [if_neg (by omega), readItems_bytes rest l h]
  dsimp only
  rw [if_neg (by simp)]
  by_cases hr : rest = []
  · subst hr
    simp
  · rw [if_pos hr, if_neg hr]

/-! ### a beginning -/

/-- The reader comes to the error: bytes are missing. -/
def Short (r : Rdr) : Prop := r.e = 8
theorem num_of_short (most : Nat) (r : Rdr) (h : Short r) : (num most r).1 = 0 ∧ Short (num most r).2 := by
  rw [num_err most r (by rw [h]; simp)]
  exact ⟨rfl, h⟩
theorem nums_of_short (most : Nat) : ∀ (n : Nat) (r : Rdr), Short r → Short (nums most n r).2
  | 0, r, h => h
  | n + 1, r, h => nums_of_short most n _ (num_of_short most r h).2
theorem num_pre (most n : Nat) (tail p q : List UInt8) (he : enc n ++ tail = p ++ q) (hq : q ≠ []) (hn : n ≤ most) (hm : most < 128 ^ 5) :
    ((num most ⟨p, 0⟩).1 = 0 ∧ Short (num most ⟨p, 0⟩).2) ∨ ∃ p', p = enc n ++ p' ∧ tail = p' ++ q := by
  rcases List.append_eq_append_iff.1 he with ⟨a, h1, h2⟩ | ⟨c, h1, h2⟩
  · exact .inr ⟨a, h1, h2⟩
  · rcases List.eq_nil_or_concat c with hc | ⟨c', x, hc⟩
    · subst hc
      exact .inr ⟨[], by simpa using h1.symm, by simpa using h2.symm⟩
    · have hne : c ≠ [] := by rw [hc]; simp
      rw [num_short most n p c hn hm h1 hne]
      exact .inl ⟨rfl, rfl⟩
theorem nums_pre (tail q : List UInt8) (hq : q ≠ []) : ∀ (l : List Int) (p : List UInt8), (∀ n ∈ l, okNum n = true) → (l.flatMap fun n => enc n.toNat) ++ tail = p ++ q →
    Short (nums maxNum l.length ⟨p, 0⟩).2 ∨ ∃ p', p = (l.flatMap fun n => enc n.toNat) ++ p' ∧ tail = p' ++ q
  | [], p, _, he => .inr ⟨p, by simp, by simpa using he⟩
  | n :: l, p, h, he => by
    have hn := h n (by simp)
    simp only [okNum, Bool.and_eq_true, decide_eq_true_eq] at hn
    rw [List.flatMap_cons, List.append_assoc] at he
    rcases num_pre maxNum n.toNat _ p q he hq (by unfold maxNum; omega) (by decide) with ⟨_, h2⟩ | ⟨p', rfl, h2⟩
    · refine .inl ?_
      rw [List.length_cons, nums]
      exact nums_of_short _ _ _ h2
    · rw [List.length_cons, nums, num_enc maxNum n.toNat _ (by unfold maxNum; omega) (by decide)]
      dsimp only
      rcases nums_pre tail q hq l p' (fun m hm => h m (List.mem_cons_of_mem _ hm)) h2 with h3 | ⟨p'', h3, h4⟩
      · exact .inl h3
      · exact .inr ⟨p'', by rw [List.flatMap_cons, List.append_assoc, ← h3], h4⟩
theorem item_of_short (r : Rdr) (h : Short r) : Short (readItem r).2 := by
  unfold readItem
  dsimp only
  rw [if_pos (num_of_short 255 r h).1]
  exact (num_of_short 255 r h).2

/-- A beginning of an item's bytes (and of what follows them). -/
theorem item_pre (x : Itm) (tail p q : List UInt8) (h : x.may = true) (hn : x.narrow) (he : x.bytes ++ tail = p ++ q) (hq : q ≠ []) : Short (readItem ⟨p, 0⟩).2 ∨ ∃ p', p = x.bytes ++ p' ∧ tail = p' ++ q := by
  cases hm : x.mark
  · obtain ⟨h1, h2, h3, h4, h5⟩ := may_step h hm
    have e : ∀ t, x.bytes ++ t = enc x.step.pass ++ (enc x.step.way ++ (enc x.step.rule.toNat ++ (enc x.step.path.length ++ ((x.step.path.flatMap fun n => enc n.toNat) ++ (enc x.step.at_.toNat ++ t))))) := fun t => by
      unfold Itm.bytes
      rw [hm]
      simp
    have hr := h2
    have ht := h3
    simp only [okNum, Bool.and_eq_true, decide_eq_true_eq] at hr ht
    rw [e] at he
    unfold readItem
    rcases num_pre 255 _ _ p q he hq (by have := hn.1; omega) (by decide) with ⟨a1, a2⟩ | ⟨p1, rfl, hf1⟩
    · refine .inl ?_
      dsimp only
      rw [if_pos a1]
      exact a2
    rw [num_enc 255 _ _ (by have := hn.1; omega) (by decide)]
    dsimp only
    rw [if_neg h1]
    dsimp only
    rcases num_pre 255 _ _ p1 q hf1 hq (by have := hn.2; omega) (by decide) with ⟨_, a2⟩ | ⟨p2, rfl, hf2⟩
    · exact .inl (num_of_short _ _ (nums_of_short _ _ _ (num_of_short _ _ (num_of_short _ _ a2).2).2)).2
    rw [num_enc 255 _ _ (by have := hn.2; omega) (by decide)]
    dsimp only
    rcases num_pre maxNum _ _ p2 q hf2 hq (by unfold maxNum; omega) (by decide) with ⟨_, a2⟩ | ⟨p3, rfl, hf3⟩
    · exact .inl (num_of_short _ _ (nums_of_short _ _ _ (num_of_short _ _ a2).2)).2
    rw [num_enc maxNum _ _ (by unfold maxNum; omega) (by decide)]
    dsimp only
    rcases num_pre 32 _ _ p3 q hf3 hq h4 (by decide) with ⟨_, a2⟩ | ⟨p4, rfl, hf4⟩
    · exact .inl (num_of_short _ _ (nums_of_short _ _ _ a2)).2
    rw [num_enc 32 _ _ h4 (by decide)]
    dsimp only
    rcases nums_pre _ q hq x.step.path p4 h5 hf4 with a2 | ⟨p5, rfl, hf5⟩
    · exact .inl (num_of_short _ _ a2).2
    rw [nums_enc _ _ h5]
    dsimp only
    rcases num_pre maxNum _ _ p5 q hf5 hq (by unfold maxNum; omega) (by decide) with ⟨_, a2⟩ | ⟨p6, rfl, hf6⟩
    · exact .inl a2
    · exact .inr ⟨p6, (e p6).symm, hf6⟩
  · have hx := may_mark h hm
    subst hx
    have e : ∀ t, Itm.bytes ⟨true, Stp.zero⟩ ++ t = enc 0 ++ t := fun t => rfl
    rw [e] at he
    rcases num_pre 255 0 _ p q he hq (by omega) (by decide) with ⟨a1, a2⟩ | ⟨p1, rfl, hf7⟩
    · refine .inl ?_
      unfold readItem
      dsimp only
      rw [if_pos a1]
      exact a2
    · exact .inr ⟨p1, rfl, hf7⟩
theorem items_pre (q : List UInt8) (hq : q ≠ []) : ∀ (l : List Itm) (p : List UInt8), (∀ x ∈ l, x.may = true ∧ x.narrow) → l.flatMap Itm.bytes = p ++ q → Short (readItems l.length ⟨p, 0⟩).2
  | [], p, _, he => absurd (by simpa using he : p = [] ∧ q = []).2 hq
  | x :: l, p, h, he => by
    obtain ⟨h1, h2⟩ := h x (by simp)
    rw [List.flatMap_cons] at he
    rw [List.length_cons, readItems]
    dsimp only
    rcases item_pre x _ p q h1 h2 he hq with a | ⟨p', rfl, hf⟩
    · rw [if_pos (by rw [a]; simp)]
      exact a
    · rw [readItem_bytes x p' h1 h2]
      dsimp only
      rw [if_neg (by simp)]
      exact items_pre q hq l p' (fun y hy => h y (List.mem_cons_of_mem _ hy)) hf
/-- A beginning of a log's bytes that is not all of them. -/
theorem readLog_pre (l : List Itm) (p q : List UInt8) (hq : q ≠ []) (hl : l.length ≤ 4096) (h : ∀ x ∈ l, x.may = true ∧ x.narrow) (he : logBytes l = p ++ q) : readLog p = ([], 8) := by
  unfold logBytes at he
  unfold readLog
  rcases num_pre maxNum l.length _ p q he hq (by unfold maxNum; omega) (by decide) with ⟨a1, a2⟩ | ⟨p', rfl, hf⟩
  · dsimp only
    rw [a1, if_neg (by omega)]
    have e : readItems 0 (num maxNum ⟨p, 0⟩).2 = ([], (num maxNum ⟨p, 0⟩).2) := rfl
    rw [e]
    dsimp only
    unfold Short at a2
    rw [if_pos (by rw [a2]; simp), a2]
  · rw [num_enc maxNum _ _ (by unfold maxNum; omega) (by decide)]
    dsimp only
    have hs := items_pre q hq l p' h hf
    rw [if_neg (by omega), if_pos (by rw [hs]; simp), hs]

/-- No log's bytes are the beginning of another one's. -/
theorem logBytes_pre (l m : List Itm) (hl : l.length ≤ 4096) (hm : m.length ≤ 4096) (h : ∀ x ∈ l, x.may = true ∧ x.narrow) (h' : ∀ x ∈ m, x.may = true ∧ x.narrow) (t : List UInt8) (he : logBytes m = logBytes l ++ t) : l = m := by
  have a := readLog_bytes m [] hm h'
  rw [List.append_nil, if_pos rfl, he, readLog_bytes l t hl h] at a
  split at a
  · exact (Prod.mk.inj a).1
  · exact absurd (Prod.mk.inj a).2 (by omega)
theorem logBytes_inj (l m : List Itm) (hl : l.length ≤ 4096) (hm : m.length ≤ 4096) (h : ∀ x ∈ l, x.may = true ∧ x.narrow) (h' : ∀ x ∈ m, x.may = true ∧ x.narrow) (he : logBytes l = logBytes m) : l = m :=
  logBytes_pre l m hl hm h h' [] (by rw [List.append_nil, he])
end Go.Proofs.YtnmnbefbadhkgaaDoor
