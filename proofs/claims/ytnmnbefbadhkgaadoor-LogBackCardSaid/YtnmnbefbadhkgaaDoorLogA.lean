/-
  ITEMS IN MEMORY; WALKS over log's functions that only read: same, Same, May, and the law's own 'long'.
-/
import Derived.Test.YtnmnbefbadhkgaaDoorSpanC
import Derived.Test.YtnmnbefbadhkgaaDoorLogM
namespace Go.Proofs.YtnmnbefbadhkgaaDoor
open Go Go.RowKit

def intsV (l : List Int) : List Value := l.map (Value.int .i64)
theorem intsV_length (l : List Int) : (intsV l).length = l.length := by simp [intsV]
theorem intsV_one (l : List Int) : ∀ u ∈ intsV l, u.oneCell' = true := by
  intro u hu
  obtain ⟨n, _, rfl⟩ := List.mem_map.1 hu
  rfl
theorem Reads.int {w : World} {B : Nat} {A : Option Addr} {n : Nat} {l : List Int} (h : Reads w B 1 A n (intsV l)) {k : Nat} (hk : k < l.length) :
    ∃ g off, A = some ⟨g, off, none⟩ ∧ g < B ∧ w.cell? ⟨g, off + k, none⟩ = some (.int .i64 l[k]) := by
  have hn : 0 < n := by have := h.1; rw [intsV_length] at this; omega
  obtain ⟨g, off, rfl, hb, hc⟩ := h.2 hn
  exact ⟨g, off, rfl, hb, hc k _ (by simp [intsV, hk])⟩

/-- element k of a list of rows of m cells -/
theorem flatN {α : Type} (m : Nat) (f : α → List Value) (hm : ∀ x, (f x).length = m) : ∀ (l : List α) (k : Nat) (x : α), l[k]? = some x → ∀ j, j < m → (l.flatMap f)[k * m + j]? = (f x)[j]?
  | [], k, x, h, _, _ => by simp at h
  | y :: l, 0, x, h, j, hj => by
    simp at h
    subst h
    rw [List.flatMap_cons, Nat.zero_mul, Nat.zero_add, List.getElem?_append_left (by rw [hm]; exact hj)]
  | y :: l, k + 1, x, h, j, hj => by
    simp at h
    have e : (k + 1) * m + j = m + (k * m + j) := by rw [Nat.add_mul]; omega
    rw [List.flatMap_cons, List.getElem?_append_right (by rw [hm]; omega), hm, e, show m + (k * m + j) - m = k * m + j from by omega]
    exact flatN m f hm l k x h j hj
theorem flatN_length {α : Type} (m : Nat) (f : α → List Value) (hm : ∀ x, (f x).length = m) (l : List α) : (l.flatMap f).length = l.length * m := by
  induction l with
  | nil => simp
  | cons c l ih => rw [List.flatMap_cons, List.length_append, ih, hm, List.length_cons, Nat.add_mul]; omega

/-- An item as a value: its path lies at A, with so much room. -/
structure ItmV where
  x : Itm
  A : Option Addr
  c : Nat
def ItmV.cells (v : ItmV) : List Value := [.bool v.x.mark, .int .u8 v.x.step.pass, .int .u8 v.x.step.way, .int .i64 v.x.step.rule, .slice v.A v.x.step.path.length v.c, .int .i64 v.x.step.at_]
def ItmV.rd (v : ItmV) (w : World) (B : Nat) : Prop := Reads w B 1 v.A v.x.step.path.length (intsV v.x.step.path)
def ItmV.val (v : ItmV) : Value := .agg #[.bool v.x.mark, .int .u8 v.x.step.pass, .int .u8 v.x.step.way, .int .i64 v.x.step.rule, .slice v.A v.x.step.path.length v.c, .int .i64 v.x.step.at_]
def Stp.fits (s : Stp) : Prop := s.pass < 256 ∧ s.way < 256 ∧ isI64 s.rule ∧ isI64 s.at_ ∧ s.path.length ≤ maxLen ∧ ∀ n ∈ s.path, isI64 n

theorem Reads.itm {w : World} {B : Nat} {A : Option Addr} {n : Nat} {l : List ItmV} (h : Reads w B 6 A n (l.flatMap ItmV.cells)) {k : Nat} (hk : k < l.length) :
    ∃ g off, A = some ⟨g, off, none⟩ ∧ g < B ∧ w.cell? ⟨g, off + k * 6, none⟩ = some (.bool l[k].x.mark) ∧ w.cell? ⟨g, off + k * 6 + 1, none⟩ = some (.int .u8 l[k].x.step.pass) ∧ w.cell? ⟨g, off + k * 6 + 2, none⟩ = some (.int .u8 l[k].x.step.way) ∧ w.cell? ⟨g, off + k * 6 + 3, none⟩ = some (.int .i64 l[k].x.step.rule) ∧ w.cell? ⟨g, off + k * 6 + 4, none⟩ = some (.slice l[k].A l[k].x.step.path.length l[k].c) ∧ w.cell? ⟨g, off + k * 6 + 5, none⟩ = some (.int .i64 l[k].x.step.at_) := by
  have hn : 0 < n := by have := h.1; rw [flatN_length 6 ItmV.cells (fun _ => rfl)] at this; omega
  obtain ⟨g, off, rfl, hb, hc⟩ := h.2 hn
  have hf := flatN 6 ItmV.cells (fun _ => rfl) l k l[k] (List.getElem?_eq_getElem hk)
  exact ⟨g, off, rfl, hb, hc _ _ (hf 0 (by omega)), hc _ _ (hf 1 (by omega)), hc _ _ (hf 2 (by omega)), hc _ _ (hf 3 (by omega)), hc _ _ (hf 4 (by omega)), hc _ _ (hf 5 (by omega))⟩

/-! ### long -/
def LLong (l : List ItmV) (w : World) (e : Ending) (w' : World) : Prop :=
  ∃ b, e = .returned (.bool b) ∧ (b = false → l.length < 20000 ∧ ∀ x ∈ l, x.x.step.path.length < 20000) ∧ w = w'
def LLongAt (l : List ItmV) (k m : Nat) : Prop := m < 20000 → k ≤ m ∧ ∀ i, (h : i < l.length) → i < k → l[i].x.step.path.length < 20000
set_option maxRecDepth 100000 in
set_option maxHeartbeats 1000000 in
theorem llong_any (w : World) (B : Nat) (A : Option Addr) (c : Nat) (l : List ItmV) (hr : Reads w B 6 A l.length (l.flatMap ItmV.cells)) (hf : ∀ x ∈ l, x.x.step.path.length ≤ maxLen) (hl : l.length ≤ maxLen) :
    Calls Tryd.prog 14 #[.slice A l.length c] w (LLong l w) := by
  unfold maxLen at hl
  go_enter Tryd.func14, Tryd.ntmps14
  go_wp2
  go_loop [3, 4] (fun t i => ∃ k m : Nat, m ≤ 40001 ∧ k ≤ l.length ∧ i = .int .i64 k ∧ t = .int .i64 m ∧ LLongAt l k m) (fun _ i => l.length - (intOf i).toNat)
  case atStart => exact ⟨0, 0, by omega, by omega, rfl, rfl, fun _ => ⟨by omega, fun i _ h => absurd h (by omega)⟩⟩
  case round =>
    obtain ⟨k, m, hm, hk, rfl, rfl, hat⟩ := hrel
    by_cases hkn : k < l.length
    · by_cases hm9 : m < 20000
      · obtain ⟨g, off, rfl, hb, c0, c1, c2, c3, c4, c5⟩ := hr.itm hkn
        have hfk := hf l[k] (List.getElem_mem hkn)
        unfold maxLen at hfk
        obtain ⟨x, hx⟩ : ∃ x, l[k] = x := ⟨_, rfl⟩
        rw [hx] at c0 c1 c2 c3 c4 c5 hfk
        have HX := Lib.hid hx
        clear hx
        go_wp2
        all_goals
          go_round
          case rel =>
            by_cases hp : x.x.step.path.length ≤ 20000
            · refine ⟨k + 1, m + 1 + x.x.step.path.length, by omega, by omega, by go_num, int_eq (by omega), fun h => ⟨by have := (hat hm9).1; omega, fun i hi hlt => ?_⟩⟩
              by_cases he : i = k
              · subst he; rw [HX.out]; omega
              · exact (hat hm9).2 i hi (by omega)
            · exact ⟨k + 1, m + 1 + 20000, by omega, by omega, by go_num, int_eq (by omega), fun h => absurd h (by omega)⟩
          case measure => simp [intOf]; omega
      · go_wp2
        go_ret
        refine ⟨_, rfl, fun h => ?_, rfl⟩
        simp at h
        try omega
    · obtain rfl : k = l.length := by omega
      go_wp2
      go_ret
      refine ⟨_, rfl, fun h => ?_, rfl⟩
      simp at h
      have h2 := hat (by omega)
      refine ⟨by omega, fun x hx => ?_⟩
      obtain ⟨i, hi, rfl⟩ := List.getElem_of_mem hx
      exact h2.2 i hi hi

/-! ### same -/
set_option maxRecDepth 100000 in
set_option maxHeartbeats 1000000 in
theorem intsEqual_any (w : World) (B : Nat) (A1 A2 : Option Addr) (c1 c2 : Nat) (l1 l2 : List Int) (h1 : Reads w B 1 A1 l1.length (intsV l1)) (h2 : Reads w B 1 A2 l2.length (intsV l2))
    (m1 : l1.length ≤ maxLen) (_m2 : l2.length ≤ maxLen) :
    Calls Tryd.prog 57 #[.slice A1 l1.length c1, .slice A2 l2.length c2] w fun e w' => e = .returned (.bool (l1 == l2)) ∧ ∃ q, w' = w.drewN q := by
  unfold maxLen at m1 _m2
  by_cases hlen : l1.length = l2.length
  · go_enter Tryd.func57, Tryd.ntmps57
    have he : (((l1.length : Int) != (l2.length : Int)) = false) := by simp [hlen]
    have HL := Lib.hid hlen
    clear hlen
    go_wp2
    go_loopw [13] (fun i wr => ∃ k q : Nat, i = .int .i64 k ∧ k ≤ l1.length ∧ wr = w.drewN q ∧ Hid ((l1 == l2) = (l1.drop k == l2.drop k))) (fun i _ => l1.length - (intOf i).toNat)
    case atStart => exact ⟨0, 0, rfl, by omega, rfl, rfl⟩
    case round =>
      obtain ⟨k, q, rfl, hk, rfl, HC⟩ := hrel
      by_cases hkn : k < l1.length
      · obtain ⟨g, off, rfl, _, d0⟩ := h1.int hkn
        have hk2 : k < l2.length := by have := HL.out; omega
        obtain ⟨g', off', rfl, _, e0⟩ := h2.int hk2
        have HS : Hid ((l1 == l2) = (l1[k] == l2[k] && l1.drop (k + 1) == l2.drop (k + 1))) := by
          show (l1 == l2) = _
          rw [HC.out, drop_cons hkn, drop_cons hk2]
          rfl
        obtain ⟨a, ha⟩ : ∃ a, l1[k] = a := ⟨_, rfl⟩
        obtain ⟨b, hb⟩ : ∃ b, l2[k] = b := ⟨_, rfl⟩
        rw [ha] at d0
        rw [hb] at e0
        rw [ha, hb] at HS
        clear ha hb HC
        by_cases hab : a = b
        · subst hab
          go_wp2
          go_quiet (fail)
          go_wp2
          go_roundw
          case rel => exact ⟨k + 1, q + nq, by go_num, by omega, by simp, (by rw [HS.out]; simp : (l1 == l2) = _)⟩
          case measure => simp [intOf]; omega
        · have hn : (a != b) = true := by simpa using hab
          go_wp2
          go_quiet (fail)
          go_wp2
          go_ret
          exact ⟨ret_bool (by rw [HS.out]; simp; intro h; exact absurd h hab), q + nq, by simp⟩
      · obtain rfl : k = l1.length := by omega
        go_wp2
        go_ret
        exact ⟨ret_bool (by rw [HC.out, List.drop_length, HL.out, List.drop_length]; rfl), q, rfl⟩
  · have hne : (l1 == l2) = false := by
      rw [beq_eq_false_iff_ne]
      intro h
      exact hlen (by rw [h])
    have he : (((l1.length : Int) != (l2.length : Int)) = true) := by simp; omega
    have HN := Lib.hid hne
    clear hlen hne
    go_enter Tryd.func57, Tryd.ntmps57
    go_wp2
    go_ret
    exact ⟨ret_bool (by rw [HN.out]), 0, rfl⟩

/-- What 'same' says of two steps. -/
def sameS (p y : Int) (r : Int) (l : List Int) (t : Int) (p' y' : Int) (r' : Int) (l' : List Int) (t' : Int) : Bool := p == p' && (y == y' && (r == r' && (t == t' && l == l')))
set_option maxRecDepth 100000 in
set_option maxHeartbeats 1000000 in
theorem sameS_any (w : World) (B : Nat) (p y r t p' y' r' t' : Int) (l l' : List Int) (A A' : Option Addr) (c c' : Nat) (hr : Reads w B 1 A l.length (intsV l)) (hr' : Reads w B 1 A' l'.length (intsV l')) (hB : B ≤ w.heap.size) (hl : l.length ≤ maxLen) (hl' : l'.length ≤ maxLen) :
    Calls Tryd.prog 38 #[.agg #[.int .u8 p, .int .u8 y, .int .i64 r, .slice A l.length c, .int .i64 t], .agg #[.int .u8 p', .int .u8 y', .int .i64 r', .slice A' l'.length c', .int .i64 t']] w fun e w' => e = .returned (.bool (sameS p y r l t p' y' r' l' t')) ∧ Below w.heap.size w w' := by
  have h1 := (hr.alloc hB (.cells #[.int .u8 p, .int .u8 y, .int .i64 r, .slice A l.length c, .int .i64 t] 55)).alloc (by simp; omega) (.cells #[.int .u8 p', .int .u8 y', .int .i64 r', .slice A' l'.length c', .int .i64 t'] 55)
  have h2 := (hr'.alloc hB (.cells #[.int .u8 p, .int .u8 y, .int .i64 r, .slice A l.length c, .int .i64 t] 55)).alloc (by simp; omega) (.cells #[.int .u8 p', .int .u8 y', .int .i64 r', .slice A' l'.length c', .int .i64 t'] 55)
  have hb0 : ∀ o o', Below w.heap.size w ((w.alloc o).alloc o') := fun o o' => ((Below.refl _ _).alloc (Nat.le_refl _) o).alloc (by simp) o'
  by_cases e1 : p = p'
  · subst e1
    by_cases e2 : y = y'
    · subst e2
      by_cases e3 : r = r'
      · subst e3
        by_cases e4 : t = t'
        · subst e4
          go_enter Tryd.func38, Tryd.ntmps38
          go_wp2_with (go_at_call 57; refine (intsEqual_any _ B A A' c c' l l' h1 h2 hl hl').mono ?_; rintro e w' ⟨rfl, q, rfl⟩)
          go_ret
          exact ⟨ret_bool (by simp [sameS]), below_drewN (hb0 _ _) _⟩
        · have f4 : (t == t') = false := by simpa using e4
          clear e4
          go_enter Tryd.func38, Tryd.ntmps38
          go_wp2
          go_ret
          exact ⟨ret_bool (by simp [sameS, f4]), hb0 _ _⟩
      · have f4 : (r == r') = false := by simpa using e3
        clear e3
        go_enter Tryd.func38, Tryd.ntmps38
        go_wp2
        go_ret
        exact ⟨ret_bool (by simp [sameS, f4]), hb0 _ _⟩
    · have f4 : (y == y') = false := by simpa using e2
      clear e2
      go_enter Tryd.func38, Tryd.ntmps38
      go_wp2
      go_ret
      exact ⟨ret_bool (by simp [sameS, f4]), hb0 _ _⟩
  · have f4 : (p == p') = false := by simpa using e1
    clear e1
    go_enter Tryd.func38, Tryd.ntmps38
    go_wp2
    go_ret
    exact ⟨ret_bool (by simp [sameS, f4]), hb0 _ _⟩
end Go.Proofs.YtnmnbefbadhkgaaDoor
