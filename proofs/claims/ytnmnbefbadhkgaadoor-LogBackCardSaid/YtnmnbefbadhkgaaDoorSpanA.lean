/-
  OUTCOMES IN MEMORY: captures, and outcomes, as cells; and the law's own 'long' over them.
-/
import Derived.Test.YtnmnbefbadhkgaaDoorName
import Derived.Test.YtnmnbefbadhkgaaDoorMem
namespace Go.Proofs.YtnmnbefbadhkgaaDoor
open Go.RowKit

/-- What was captured. -/
structure Cap where
  name : ByteArray
  fr : Int
  to : Int

/-- An outcome. -/
structure Out where
  ok : Bool
  to : Int
  caps : List Cap

def Cap.cells (c : Cap) : List Value := [.string c.name, .int .i64 c.fr, .int .i64 c.to]
def capCells (cs : List Cap) : List Value := cs.flatMap Cap.cells

/-- What a value of Go's can be. -/
def isI64 (n : Int) : Prop := -9223372036854775808 ≤ n ∧ n ≤ 9223372036854775807
def Cap.fits (c : Cap) : Prop := c.name.size ≤ maxLen ∧ isI64 c.fr ∧ isI64 c.to
def Out.fits (o : Out) : Prop := isI64 o.to ∧ o.caps.length ≤ maxLen ∧ ∀ c ∈ o.caps, c.fits

theorem capCells_length (cs : List Cap) : (capCells cs).length = cs.length * 3 := by
  induction cs with
  | nil => rfl
  | cons c cs ih => simp only [capCells, List.flatMap_cons, List.length_append, List.length_cons] at ih ⊢; rw [ih]; simp [Cap.cells]; omega
theorem capCells_one (cs : List Cap) : ∀ u ∈ capCells cs, u.oneCell' = true := by
  intro u hu
  simp only [capCells, List.mem_flatMap, Cap.cells] at hu
  obtain ⟨c, _, hu⟩ := hu
  simp at hu
  rcases hu with rfl | rfl | rfl <;> rfl
theorem capCells_append (a b : List Cap) : capCells (a ++ b) = capCells a ++ capCells b := by simp [capCells]

/-- element k of a list of rows of three cells -/
theorem flat3 {α : Type} (f : α → List Value) (h3 : ∀ x, (f x).length = 3) : ∀ (l : List α) (k : Nat) (x : α), l[k]? = some x → ∀ j, j < 3 → (l.flatMap f)[k * 3 + j]? = (f x)[j]?
  | [], k, x, h, _, _ => by simp at h
  | y :: l, 0, x, h, j, hj => by
    simp at h
    subst h
    rw [List.flatMap_cons, Nat.zero_mul, Nat.zero_add, List.getElem?_append_left (by rw [h3]; exact hj)]
  | y :: l, k + 1, x, h, j, hj => by
    simp at h
    rw [List.flatMap_cons, List.getElem?_append_right (by rw [h3]; omega), h3, show (k + 1) * 3 + j - 3 = k * 3 + j from by omega]
    exact flat3 f h3 l k x h j hj
theorem flat3_length {α : Type} (f : α → List Value) (h3 : ∀ x, (f x).length = 3) (l : List α) : (l.flatMap f).length = l.length * 3 := by
  induction l with
  | nil => rfl
  | cons c l ih => rw [List.flatMap_cons, List.length_append, ih, h3, List.length_cons]; omega

/-- The cells of capture k. -/
theorem Reads.cap {w : World} {B : Nat} {A : Option Addr} {n : Nat} {cs : List Cap} (h : Reads w B 3 A n (capCells cs)) {k : Nat} (hk : k < cs.length) :
    ∃ g off, A = some ⟨g, off, none⟩ ∧ g < B ∧ w.cell? ⟨g, off + k * 3, none⟩ = some (.string cs[k].name) ∧ w.cell? ⟨g, off + k * 3 + 1, none⟩ = some (.int .i64 cs[k].fr) ∧ w.cell? ⟨g, off + k * 3 + 2, none⟩ = some (.int .i64 cs[k].to) := by
  have hn : 0 < n := by have := h.1; rw [capCells_length] at this; omega
  obtain ⟨g, off, rfl, hb, hc⟩ := h.2 hn
  have hf := flat3 Cap.cells (fun _ => rfl) cs k cs[k] (List.getElem?_eq_getElem hk)
  exact ⟨g, off, rfl, hb, by have := hc _ _ (hf 0 (by omega)); exact this, by have := hc _ _ (hf 1 (by omega)); exact this, by have := hc _ _ (hf 2 (by omega)); exact this⟩

/-- An outcome as a value: its captures lie at A, with so much room. -/
structure OutV where
  o : Out
  A : Option Addr
  c : Nat
def OutV.cells (x : OutV) : List Value := [.bool x.o.ok, .int .i64 x.o.to, .slice x.A x.o.caps.length x.c]
def OutV.rd (x : OutV) (w : World) (B : Nat) : Prop := Reads w B 3 x.A x.o.caps.length (capCells x.o.caps)
def OutV.val (x : OutV) : Value := .agg #[.bool x.o.ok, .int .i64 x.o.to, .slice x.A x.o.caps.length x.c]

theorem Reads.out {w : World} {B : Nat} {A : Option Addr} {n : Nat} {os : List OutV} (h : Reads w B 3 A n (os.flatMap OutV.cells)) {k : Nat} (hk : k < os.length) :
    ∃ g off, A = some ⟨g, off, none⟩ ∧ g < B ∧ w.cell? ⟨g, off + k * 3, none⟩ = some (.bool os[k].o.ok) ∧ w.cell? ⟨g, off + k * 3 + 1, none⟩ = some (.int .i64 os[k].o.to) ∧ w.cell? ⟨g, off + k * 3 + 2, none⟩ = some (.slice os[k].A os[k].o.caps.length os[k].c) := by
  have hn : 0 < n := by have := h.1; rw [flat3_length OutV.cells (fun _ => rfl)] at this; omega
  obtain ⟨g, off, rfl, hb, hc⟩ := h.2 hn
  have hf := flat3 OutV.cells (fun _ => rfl) os k os[k] (List.getElem?_eq_getElem hk)
  exact ⟨g, off, rfl, hb, by have := hc _ _ (hf 0 (by omega)); exact this, by have := hc _ _ (hf 1 (by omega)); exact this, by have := hc _ _ (hf 2 (by omega)); exact this⟩

theorem int_eq {k : IntKind} {a b : Int} (h : a = b) : Value.int k a = Value.int k b := by rw [h]

/-- 'long' says no only where no outcome has 900 captures. -/
def LongSays (os : List OutV) (w : World) (e : Ending) (w' : World) : Prop :=
  ∃ b, e = .returned (.bool b) ∧ (b = false → ∀ x ∈ os, x.o.caps.length < 900) ∧ w = w'

def LongAt (os : List OutV) (k m : Nat) : Prop := m < 900 → ∀ i, (h : i < os.length) → i < k → os[i].o.caps.length < 900

set_option maxRecDepth 100000 in
set_option maxHeartbeats 800000 in
theorem long_any (w : World) (B : Nat) (A : Option Addr) (c : Nat) (os : List OutV) (hr : Reads w B 3 A os.length (os.flatMap OutV.cells)) (hf : ∀ x ∈ os, x.o.fits ∧ x.rd w B) (hl : os.length ≤ maxLen) :
    Calls Tryd.prog 9 #[.slice A os.length c] w (LongSays os w) := by
  unfold maxLen at hl
  go_enter Tryd.func9, Tryd.ntmps9
  go_wp2
  go_loop [3, 4, 5] (fun t i j => ∃ k m : Nat, m ≤ 1800 ∧ k ≤ os.length ∧ i = .int .i64 k ∧ t = .int .i64 m ∧ LongAt os k m) (fun _ i _ => os.length - (intOf i).toNat)
  case atStart => exact ⟨0, 0, by omega, by omega, rfl, rfl, fun _ i _ h => absurd h (by omega)⟩
  case round =>
    obtain ⟨k, m, hm, hk, rfl, rfl, hat⟩ := hrel
    by_cases hkn : k < os.length
    · by_cases hm9 : m < 900
      · obtain ⟨g, off, rfl, hb, c0, c1, c2⟩ := hr.out hkn
        obtain ⟨⟨_, hl1, hfc⟩, hrd⟩ := hf os[k] (List.getElem_mem hkn)
        unfold maxLen at hl1
        unfold OutV.rd at hrd
        obtain ⟨x, hx⟩ : ∃ x, os[k] = x := ⟨_, rfl⟩
        rw [hx] at c0 c1 c2 hl1 hrd hfc
        have HX := Lib.hid hx
        clear hx
        go_wp2
        all_goals
          go_loop [3, 5] (fun t j => ∃ i m' : Nat, m ≤ m' ∧ m' ≤ 1800 ∧ i ≤ x.o.caps.length ∧ j = .int .i64 i ∧ t = .int .i64 m' ∧ (m' < 900 → x.o.caps.length < 900)) (fun _ j => x.o.caps.length - (intOf j).toNat)
          case atStart => first | exact ⟨0, m + 900, by omega, by omega, by omega, rfl, rfl, by omega⟩ | exact ⟨0, m + x.o.caps.length, by omega, by omega, by omega, rfl, rfl, by omega⟩
          case round =>
            obtain ⟨i, m', hmm, hm', hi, rfl, rfl, hless⟩ := hrel
            by_cases hin : i < x.o.caps.length
            · by_cases hm8 : m' < 900
              · obtain ⟨g1, off1, hA1, hb1, d0, d1, d2⟩ := hrd.cap hin
                have hA2 : x.A = some ⟨g1, off1, none⟩ := hA1
                have hf1 := (hfc _ (List.getElem_mem hin)).1
                unfold maxLen at hf1
                rw [hA1] at c2
                have HL := Lib.hid (hless hm8)
                clear hless hfc hA1 hA2
                obtain ⟨s, hs⟩ : ∃ s, x.o.caps[i].name = s := ⟨_, rfl⟩
                rw [hs] at d0 hf1
                clear hs
                go_wp2
                go_round
                case rel => exact ⟨i + 1, m' + (min s.size 900) / 40, by omega, by omega, by omega, by go_num, int_eq (by split <;> omega), fun _ => HL.out⟩
                case measure => simp [intOf]; omega
              · go_wp2
                go_round
                case rel => exact ⟨k + 1, m', by omega, by omega, by go_num, rfl, fun h => absurd h (by omega)⟩
                case measure => simp [intOf]; omega
            · have hat' : LongAt os (k + 1) m' := fun h i' hi' hlt => by
                by_cases he : i' = k
                · subst he; rw [HX.out]; exact hless h
                · exact hat (by omega) i' hi' (by omega)
              clear hless
              by_cases hm8 : m' < 900
              all_goals
                go_wp2
                go_round
                case rel => exact ⟨k + 1, m', by omega, by omega, by go_num, rfl, hat'⟩
                case measure => simp [intOf]; omega
      · go_wp2
        go_ret
        refine ⟨_, rfl, fun h => ?_, rfl⟩
        simp at h
        try omega
    · obtain rfl : k = os.length := by omega
      go_wp2
      go_ret
      refine ⟨_, rfl, fun h => ?_, rfl⟩
      simp at h
      intro x hx
      obtain ⟨i, hi, rfl⟩ := List.getElem_of_mem hx
      exact hat (by omega) i hi hi
end Go.Proofs.YtnmnbefbadhkgaaDoor
