/-
  MORE WORDS FOR MEMORY: an append of so many zeros; a copy, whatever the elements' size in cells; what a slice of the call's own reads as behind it.
-/
import Derived.Test.YtnmnbefbadhkgaaDoorMem
import Derived.Lib.AppendZeros
import Derived.Lib.Overlaps
import Derived.Laws.IdiomCopy
namespace Go.Proofs.YtnmnbefbadhkgaaDoor
open Go Go.RowKit

section
variable {P : Program}
/-- append of n zeros onto an empty slice that has not the room: a new row. -/
theorem run_app_zeros (w : World) (t tn ty e : TypeId) (i : TypeInfo) (z : Value) (k kn : IntKind) (ht : P.underlying t = some (.slice e)) (htn : P.underlying tn = some (.int kn)) (hi : P.info? e = some i) (hz : i.zero = some z)
    (base : Option Addr) (c n : Nat) (h0 : c < n) (hs : 0 < i.size) (h63 : (n : Int) ≤ 9223372036854775807) (h48 : n * i.bytes ≤ 140737488355328) :
    (Builtin.append_ #[t, tn] ty #[.slice base 0 c, .int k n]).run P w =
      .ok (.slice (some ⟨w.heap.size, 0, none⟩) n (grownCap w n c e)) (w.drew.alloc (.cells (Builtin.zeroCells z.cells n ++ Builtin.zeroCells z.cells (grownCap w n c e - n)) e)) := by
  have hn : n ≠ 0 := by omega
  have hw : IntKind.i64.wrap (n : Int) = n := by rw [IntKind.wrap_i64]; omega
  have h63' : ¬ (9223372036854775807 < (n : Int)) := by omega
  have h48' : ¬ (281474976710656 < Builtin.nextslicecap n c * i.bytes) := by have := growslice_fits (bytes := i.bytes) h0 h48; omega
  have h48i : ¬ (281474976710656 < (n : Int) * (i.bytes : Int)) := by
    rw [← Int.natCast_mul]
    omega
  have hneg : ¬ ((n : Int) < 0) := by omega
  have hns : ¬ (n * i.size = 0) := Nat.mul_ne_zero hn (by omega)
  have hroom : ¬ (n ≤ c) := by omega
  have hfc : ∀ W : World, (Builtin.firstCells i.size 0 (.slice base 0 c)).run P W = .ok #[] W := fun W => by
    cases base with
    | none => exact run_firstCells_none W i.size 0 0 c
    | some a => exact run_firstCells_some W i.size 0 a 0 c [] (by simp) (fun j v hj => by simp at hj)
  simp [Builtin.append_, run_underlying ht, run_underlying htn, sizeOf, typeInfo, zeroValue, hi, hz, asInt, asIntOf, hw, hroom, hneg, hns, h63', h48', h48i, Question.forced, hfc, newRow, grownCap]

/-- The same as a step: a slice of the call's own, of n elements, whatever they are. -/
theorem wpList_app_zeros {ops : Array Oper} {rest : List Oper} {o : Oper} {a : Act} {Q : Exit → Act → World → Prop} (w : World) (hgd : o.guard = none) (s x : Operand) (t tn : TypeId)
    (ho : o.op = .call { callee := .builtin .append, args := #[s, x], argTypes := #[t, tn] })
    (e : TypeId) (z : Value) (size bytes : Nat) (k kn : IntKind) (ht : P.underlying t = some (.slice e)) (htn : P.underlying tn = some (.int kn)) (hi : (P.info? e).map (fun i => (i.zero, i.size, i.bytes)) = some (some z, size, bytes)) (hzs : z.cells.size = size) (hsz : 0 < size)
    (A : Option Addr) (c n : Nat) (hsv : a.eval s = .slice A 0 c) (hxv : a.eval x = .int k n) (h0 : c < n) (h63 : (n : Int) ≤ 9223372036854775807) (h48 : n * bytes ≤ 140737488355328)
    (h : ∀ cap' w' zs, Owns w' w.heap.size e size (some ⟨w.heap.size, 0, none⟩) n cap' zs → Below w.heap.size w w' → wpList P ops Q rest (a.put o.dst (.slice (some ⟨w.heap.size, 0, none⟩) n cap')) w') : wpList P ops Q (o :: rest) a w := by
  obtain ⟨i, hi0, hz0, rfl, rfl⟩ := info_parts hi
  have hr := run_app_zeros (P := P) w t tn o.type e i z k kn ht htn hi0 hz0 A c n h0 hsz h63 h48
  refine Lib.wpList_append_run w hgd s x t tn ho _ _ hsv hxv _ _ hr ?_
  have hge := grownCap_ge w n c e
  have hcm : grownCap w n c e ≤ maxLen := grownCap_le_maxLen w n c e (by unfold maxLen; omega)
  refine h _ _ (Builtin.zeroCells z.cells n).toList ⟨?_, hge, hcm, (fun h => by cases h), fun ad ha => ?_⟩ ((Below.refl _ w).drew.alloc (Nat.le_refl _) _)
  · rw [Array.length_toList, size_zeroCells, hzs]
  · cases ha
    refine ⟨w.heap.size, 0, rfl, Nat.le_refl _, _, heap_alloc_new w.drew _, ?_, fun j hj => ?_⟩
    · simp only [Array.size_append, size_zeroCells, hzs, ← Nat.add_mul]
      rw [show n + (grownCap w n c e - n) = grownCap w n c e from by omega]
      omega
    · rw [Nat.zero_add, Array.getElem?_append_left (by rw [size_zeroCells, hzs]; exact hj)]
      simp

/-- copy, whatever the elements' size: the cells are laid from the place on. -/
theorem run_copy_at (w : World) (dT sT ty elem : TypeId) (size : Nat) (hu : P.underlying dT = some (.slice elem)) (hs : (P.info? elem).map (·.size) = some size) (b o dLen dCap : Nat) (a : Addr) (sLen sCap m : Nat) (cs : List Value) (hm : m = Nat.min sLen dLen) (hn : cs.length = m * size)
    (hsrc : ∀ j v, cs[j]? = some v → w.cell? (a.add j) = some v) (hc : ∀ j, j < cs.length → (w.cell? ⟨b, o + j, none⟩).isSome = true) (hf : ∀ j, j < cs.length → w.frozen? ⟨b, o + j, none⟩ = false) (h1 : ∀ v ∈ cs, v.oneCell' = true) :
    (Builtin.copy_ #[dT, sT] ty #[.slice (some ⟨b, o, none⟩) dLen dCap, .slice (some a) sLen sCap]).run P w = .ok (goInt m) (w.setCells b o cs) := by
  subst hm
  have hl := run_firstCells_some (P := P) w size (Nat.min sLen dLen) a sLen sCap cs hn hsrc
  have hst := run_storeCells_cells (P := P) b o cs 0 w (by simpa using hc) (by simpa using hf) h1
  cases hq : P.info? elem with
  | none => simp [hq] at hs
  | some i =>
    have hi : i.size = size := by simpa [hq] using hs
    simp [Builtin.copy_, run_underlying hu, Builtin.lenOf, sizeOf, typeInfo, hq, hi, hl, hst]

/-- copy as a step: of a list, and of a region that draws (for go_region_law_o). -/
theorem wpList_copy_at (w : World) {ops : Array Oper} {rest : List Oper} {o : Oper} {a : Act} {Q : Exit → Act → World → Prop} (hgd : o.guard = none) (d s : Operand) (t t' : TypeId)
    (ho : o.op = .call { callee := .builtin .copy, args := #[d, s], argTypes := #[t, t'] }) (v u : Value) (hd : a.eval d = v) (hs : a.eval s = u) {v' : Value} {w' : World}
    (hr : (Builtin.copy_ #[t, t'] o.type #[v, u]).run P w = .ok v' w') (h : wpList P ops Q rest (a.put o.dst v') w') : wpList P ops Q (o :: rest) a w :=
  wpList_plain hgd fun _ hK => by
    unfold Oper.wp execOp
    simp only [ho, resolve, invoke, builtin, Sem.run_bind, Sem.run_pure, Result.andThen_ok, List.map_toArray, List.map_cons, List.map_nil, hd, hs, hr]
    exact hK _ _ h
theorem step_copy_at {ops : Array Oper} {o : Oper} {a : Act} {w : World} {K : Act → World → Prop} {Q : Exit → Act → World → Prop} {E : Prop}
    (hg : o.guard = none) (d x : Operand) (dT sT : TypeId) (hop : o.op = Op.call { callee := Callee.builtin Builtin.copy, args := #[d, x], argTypes := #[dT, sT] })
    (v u : Value) (hd : a.eval d = v) (hx : a.eval x = u) {v' : Value} {w' : World} (hr : (Builtin.copy_ #[dT, sT] o.type #[v, u]).run P w = .ok v' w') (hK : K (a.put o.dst v') w') :
    if Region.wanted o (yielded ops a.tmps) = true then Oper.wp P o a w K Q else E := by
  have hw : Region.wanted o (yielded ops a.tmps) = true := by simp [Region.wanted, hg]
  rw [if_pos hw]
  unfold Oper.wp
  simp [execOp, hop, resolve, invoke, builtin, hd, hx, hr, Result.andThen]
  exact hK
end

section
variable {w w' : World} {base : Nat} {e : TypeId} {size n cap g off : Nat} {A : Option Addr} {xs : List Value}
/-- There is room: the cells behind the last element are the call's own too. -/
theorem Owns.extend (h : Owns w base e size A n cap xs) {n' : Nat} (h1 : n ≤ n') (h2 : n' ≤ cap) : ∃ ys : List Value, ys.length = (n' - n) * size ∧ Owns w base e size A n' cap (xs ++ ys) := by
  obtain ⟨hl, hc, hm, hn, hA⟩ := h
  cases A with
  | none =>
    have := hn rfl
    refine ⟨[], ?_, ?_, h2, hm, hn, (fun _ h => by cases h)⟩
    · rw [show n' - n = 0 from by omega]; simp
    · rw [List.append_nil, hl, show n' = n from by omega]
  | some ad =>
    obtain ⟨g, off, rfl, hb, cur, hg, hs, hx⟩ := hA ad rfl
    have hmul : n * size + (n' - n) * size = n' * size := by rw [← Nat.add_mul]; congr 1; omega
    have hle : n' * size ≤ cap * size := Nat.mul_le_mul_right _ h2
    refine ⟨(cur.toList.drop (off + n * size)).take ((n' - n) * size), ?_, ?_, h2, hm, (fun h => by cases h), fun ad ha => ?_⟩
    · rw [List.length_take, List.length_drop, Array.length_toList]; omega
    · rw [List.length_append, hl, List.length_take, List.length_drop, Array.length_toList]; omega
    · cases ha
      refine ⟨g, off, rfl, hb, cur, hg, hs, fun j hj => ?_⟩
      by_cases hjn : j < n * size
      · rw [List.getElem?_append_left (by omega), hx j hjn]
      · rw [List.getElem?_append_right (by omega), List.getElem?_take, if_pos (by omega), List.getElem?_drop, Array.getElem?_toList]
        congr 1; omega

/-- Cells laid over a part of it. -/
theorem Owns.splice (h : Owns w base e size (some ⟨g, off, none⟩) n cap xs) (cs : List Value) (k : Nat) (hk : k + cs.length ≤ n * size) :
    Owns (w.setCells g (off + k) cs) base e size (some ⟨g, off, none⟩) n cap (xs.take k ++ cs ++ xs.drop (k + cs.length)) := by
  obtain ⟨hl, hc, hm, hn, hA⟩ := h
  obtain ⟨g', off', he, hb, cur, hg, hs, hx⟩ := hA _ rfl
  simp only [Addr.mk.injEq, and_true] at he
  obtain ⟨rfl, rfl⟩ := he
  have hle : n * size ≤ cap * size := Nat.mul_le_mul_right _ hc
  obtain ⟨cur', hg', hs'⟩ := setCells_block g e (0, 0) cs (off + k) w cur hg
  have hcell : ∀ j, w.cell? ⟨g, j, none⟩ = cur[j]? := fun j => cell_of_row w g j cur e (0, 0) hg
  have hex : ∀ j, j < cs.length → (w.cell? ⟨g, off + k + j, none⟩).isSome = true := fun j hj => by
    rw [hcell, Array.getElem?_eq_getElem (by omega)]; rfl
  refine ⟨by simp only [List.length_append, List.length_take, List.length_drop]; omega, hc, hm, (fun h => by cases h), fun ad ha => ?_⟩
  cases ha
  refine ⟨g, off, rfl, hb, cur', hg', by omega, fun j hj => ?_⟩
  rw [← cell_of_row _ g (off + j) cur' e (0, 0) hg']
  by_cases h1 : j < k
  · rw [World.cell?_setCells_out g cs _ w _ (fun _ _ => .inl (by show off + j < _; omega)), hcell, hx j hj, List.append_assoc, List.getElem?_append_left (by rw [List.length_take]; omega), List.getElem?_take, if_pos h1]
  · by_cases h2 : j < k + cs.length
    · have h := World.cell?_setCells_in g cs (off + k) w hex (j - k) (by omega)
      rw [show off + k + (j - k) = off + j from by omega] at h
      rw [h, List.append_assoc, List.getElem?_append_right (by rw [List.length_take]; omega), List.length_take, show j - min k xs.length = j - k from by omega, List.getElem?_append_left (by omega), List.getElem?_eq_getElem (by omega)]
    · rw [World.cell?_setCells_out g cs _ w _ (fun _ _ => .inr (by show _ ≤ off + j; omega)), hcell, hx j hj, List.getElem?_append_right (by rw [List.length_append, List.length_take]; omega), List.getElem?_drop, List.length_append, List.length_take]
      congr 1; omega
theorem Owns.room (h : Owns w base e size (some ⟨g, off, none⟩) n cap xs) {j : Nat} (hj : j < cap * size) : (w.cell? ⟨g, off + j, none⟩).isSome = true := by
  obtain ⟨hl, hc, hm, hn, hA⟩ := h
  obtain ⟨g', off', he, hb, cur, hg, hs, hx⟩ := hA _ rfl
  simp only [Addr.mk.injEq, and_true] at he
  obtain ⟨rfl, rfl⟩ := he
  rw [cell_of_row w g (off + j) cur e (0, 0) hg, Array.getElem?_eq_getElem (by omega)]; rfl
theorem Owns.shape (h : Owns w base e size (some ⟨g, off, none⟩) n cap xs) : ∃ k, w.shape? g = some (e, k) ∧ off + cap * size ≤ k := by
  obtain ⟨hl, hc, hm, hn, hA⟩ := h
  obtain ⟨g', off', he, hb, cur, hg, hs, hx⟩ := hA _ rfl
  simp only [Addr.mk.injEq, and_true] at he
  obtain ⟨rfl, rfl⟩ := he
  exact ⟨cur.size, by simp [World.shape?, hg], hs⟩
theorem grownBy_setCells (w : World) (g o : Nat) (cs : List Value) : w.grownBy (w.setCells g o cs) (some g) := by
  obtain ⟨r1, r2, r3, r4⟩ := setCells_rest g cs o w
  exact ⟨r1, r2, r3, by omega, fun k _ hk => setCells_far g cs o w k (fun e => hk (by rw [e]))⟩
theorem Blk.setCells {G : Nat} {t : TypeId} {cs : Array Value} (h : Blk w G t cs) {g : Nat} (hg : G ≠ g) (o : Nat) (vs : List Value) : Blk (w.setCells g o vs) G t cs := (setCells_far g vs o w G hg).trans h
theorem add_off (g off j : Nat) : ((⟨g, off, none⟩ : Addr).add j) = ⟨g, off + j, none⟩ := by unfold Addr.add; split <;> simp_all
end
end Go.Proofs.YtnmnbefbadhkgaaDoor
