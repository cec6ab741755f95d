/-
  LOGS AS ARGUMENTS: what a reading of a list of items gives the walks; a law for lists of whatever elements.
-/
import Derived.Test.YtnmnbefbadhkgaaDoorOpenSpan
import Derived.Test.YtnmnbefbadhkgaaDoorLogB
namespace Go.Proofs.YtnmnbefbadhkgaaDoor
open Go Go.RowKit Go.WideShapes Go.ChangeShapes Go.Deep

section
variable {H : Type} {enc : TypeId × Value → H} {W : World}

/-- A slice of elements that open. -/
theorem open_list {α : Type} [Inhabited α] (m : Nat) (hm : 0 < m) (f : α → List Value) (hf : ∀ x, (f x).length = m) (good : α → Prop) {t e : TypeId} (ht : Tryd.prog.underlying t = some (.slice e)) (hc : Tryd.prog.cellsOf e = m)
    (hx : ∀ {fuel : Nat} {cs : List Value} {y : DataW H × List MemPlace}, DataW.trod enc Tryd.prog W 0 (fun _ => true) true fuel e cs = some y → ∃ x : α, cs = f x ∧ good x)
    {fuel : Nat} {v : Value} {y : DataW H × List MemPlace} (h : DataW.trod enc Tryd.prog W 0 (fun _ => true) true fuel t [v] = some y) :
    ∃ A c l, v = .slice A (List.length l) c ∧ Reads W W.heap.size m A (List.length l) (l.flatMap f) ∧ (∀ x ∈ l, good x) ∧ List.length l ≤ maxLen := by
  rcases open_slice ht h with ⟨hv, _⟩ | ⟨a, len, cap, k, n, D, Pl, hv, _, hlc, hcm, hmm, _, hxs⟩
  · simp only [List.cons.injEq, and_true] at hv
    exact ⟨none, 0, [], hv, Reads.none_, by simp, Nat.zero_le _⟩
  · simp only [List.cons.injEq, and_true] at hv
    simp only [if_true] at hmm
    have hx' : ∀ i, i < len → ∃ x : α, good x ∧ ∀ j, j < m → W.cell? ((a.add (i * m)).add j) = (f x)[j]? := fun i hi => by
      obtain ⟨cs', h1, h2⟩ := hxs i (by omega)
      rw [hc] at h1
      obtain ⟨x, rfl, hg⟩ := hx h2
      exact ⟨x, hg, fun j hj => (World.cells?_some h1).2.2 j hj⟩
    obtain ⟨g, hg⟩ := choose_lt hx'
    have hlen : ((List.range len).map g).length = len := by simp
    refine ⟨some a, cap, (List.range len).map g, by rw [hv, hlen], ?_, ?_, by rw [hlen]; omega⟩
    · rw [hlen]
      refine ⟨by rw [flatN_length m f hf, hlen], fun hpos => ?_⟩
      have h0 : 0 < (f (g 0)).length := by rw [hf]; exact hm
      have c0 := (hg 0 hpos).2 0 hm
      rw [List.getElem?_eq_getElem h0, Nat.zero_mul] at c0
      have hsp := World.cell?_spot c0
      obtain ⟨b, off, spot⟩ := a
      have hspot : spot = none := by simpa [Addr.add] using hsp
      subst hspot
      have hadd : ∀ i j : Nat, (((⟨b, off, none⟩ : Addr).add i).add j) = ⟨b, off + (i + j), none⟩ := fun i j => by
        unfold Addr.add
        by_cases h1 : i = 0 <;> by_cases h2 : j = 0 <;> simp [h1, h2, Nat.add_assoc]
      refine ⟨b, off, rfl, ?_, fun j u hu => ?_⟩
      · have := World.block_lt_of_cell? W _ c0
        rw [hadd] at this
        exact this
      · have hjl : j < len * m := by have := (List.getElem?_eq_some_iff.1 hu).1; rw [flatN_length m f hf, hlen] at this; exact this
        have hk : j / m < len := Nat.div_lt_of_lt_mul (by rw [Nat.mul_comm]; exact hjl)
        have hmod := Nat.mod_lt j hm
        have hjd : j / m * m + j % m = j := by rw [Nat.mul_comm]; exact Nat.div_add_mod j m
        have e := flatN m f hf ((List.range len).map g) (j / m) (g (j / m)) (by simp [hk]) (j % m) hmod
        rw [hjd] at e
        rw [e] at hu
        have := (hg (j / m) hk).2 (j % m) hmod
        rw [hadd, hjd] at this
        exact this.trans hu
    · intro c hc
      obtain ⟨i, hi, rfl⟩ := List.mem_map.1 hc
      exact (hg i (List.mem_range.1 hi)).1

theorem flat_ints (l : List Int) : l.flatMap (fun n => [Value.int .i64 n]) = intsV l := by
  induction l with
  | nil => rfl
  | cons a l ih => rw [List.flatMap_cons, ih]; rfl
theorem open_ints' {fuel : Nat} {v : Value} {y : DataW H × List MemPlace} (h : DataW.trod enc Tryd.prog W 0 (fun _ => true) true fuel 53 [v] = some y) :
    ∃ A c l, v = .slice A (List.length l) c ∧ Reads W W.heap.size 1 A (List.length l) (intsV l) ∧ (∀ n ∈ l, isI64 n) ∧ List.length l ≤ maxLen := by
  have := open_list 1 (by omega) (fun n : Int => [Value.int .i64 n]) (fun _ => rfl) isI64 Tryd.underlying53 cellsInt (fun hx => by
    obtain ⟨n, hn, _, wf⟩ := DataW.trod_int Tryd.underlying3 hx
    exact ⟨n, hn, i64_of_wf wf⟩) h
  obtain ⟨A, c, l, h1, h2, h3, h4⟩ := this
  exact ⟨A, c, l, h1, by rw [flat_ints] at h2; exact h2, h3, h4⟩

theorem u8_of_wf {n : Int} (h : (Lit.int .u8 n).wf = true) : ∃ m : Nat, n = m ∧ m < 256 := by
  simp [Lit.wf, IntKind.min, IntKind.max, IntKind.signed, IntKind.bits] at h
  exact ⟨n.toNat, by omega, by omega⟩
theorem cellsU8 : Tryd.prog.cellsOf 5 = 1 := by kernel_rfl
theorem cellsBool : Tryd.prog.cellsOf 4 = 1 := by kernel_rfl
theorem cellsInts : Tryd.prog.cellsOf 53 = 1 := by kernel_rfl
theorem cellsStep : Tryd.prog.cellsOf 55 = 5 := by kernel_rfl
theorem cellsItm : Tryd.prog.cellsOf 57 = 6 := by kernel_rfl

theorem trod_struct5 {P : Program} {t : TypeId} {f0 f1 f2 f3 f4 : Field} {fuel : Nat} {cs : List Value} {x : DataW H × List MemPlace} (ht : P.underlying t = some (.struct #[f0, f1, f2, f3, f4])) (h : DataW.trod enc P W 0 (fun _ => true) true fuel t cs = some x) :
    ∃ y0 y1 y2 y3 y4 n, cs.length = P.cellsOf t ∧ DataW.trod enc P W 0 (fun _ => true) true n f0.type ((cs.drop f0.offset).take (P.cellsOf f0.type)) = some y0 ∧
      DataW.trod enc P W 0 (fun _ => true) true n f1.type ((cs.drop f1.offset).take (P.cellsOf f1.type)) = some y1 ∧ DataW.trod enc P W 0 (fun _ => true) true n f2.type ((cs.drop f2.offset).take (P.cellsOf f2.type)) = some y2 ∧
      DataW.trod enc P W 0 (fun _ => true) true n f3.type ((cs.drop f3.offset).take (P.cellsOf f3.type)) = some y3 ∧ DataW.trod enc P W 0 (fun _ => true) true n f4.type ((cs.drop f4.offset).take (P.cellsOf f4.type)) = some y4 := by
  obtain ⟨xs, n, _, rfl, hl, hlen, hf⟩ := DataW.trod_struct ht h
  match xs, hlen with
  | [y0, y1, y2, y3, y4], _ => exact ⟨y0, y1, y2, y3, y4, n, hl, by simpa using hf 0 f0 rfl, by simpa using hf 1 f1 rfl, by simpa using hf 2 f2 rfl, by simpa using hf 3 f3 rfl, by simpa using hf 4 f4 rfl⟩

set_option maxRecDepth 100000 in
theorem open_step {fuel : Nat} {cs : List Value} {x : DataW H × List MemPlace} (h : DataW.trod enc Tryd.prog W 0 (fun _ => true) true fuel 55 cs = some x) :
    ∃ (s : Stp) (A : Option Addr) (c : Nat), cs = [.int .u8 s.pass, .int .u8 s.way, .int .i64 s.rule, .slice A s.path.length c, .int .i64 s.at_] ∧ Reads W W.heap.size 1 A s.path.length (intsV s.path) ∧ s.fits := by
  obtain ⟨y0, y1, y2, y3, y4, n, hl, h0, h1, h2, h3, h4⟩ := trod_struct5 Tryd.underlying55 h
  rw [cellsStep] at hl
  match cs, hl with
  | [a, b, c, d, e], _ =>
    simp only [cellsInt, cellsU8, cellsInts, List.drop_zero, List.drop_succ_cons, List.take_succ_cons, List.take_zero] at h0 h1 h2 h3 h4
    obtain ⟨p, hp, _, wp⟩ := DataW.trod_int Tryd.underlying5 h0
    obtain ⟨q, hq, _, wq⟩ := DataW.trod_int Tryd.underlying5 h1
    obtain ⟨r, hr, _, wr⟩ := DataW.trod_int Tryd.underlying3 h2
    obtain ⟨A, k, l, rfl, hrd, hi, hll⟩ := open_ints' h3
    obtain ⟨t, ht, _, wt⟩ := DataW.trod_int Tryd.underlying3 h4
    simp only [List.cons.injEq, and_true] at hp hq hr ht
    subst hp hq hr ht
    obtain ⟨p, rfl, hp⟩ := u8_of_wf wp
    obtain ⟨q, rfl, hq⟩ := u8_of_wf wq
    exact ⟨⟨p, q, r, l, t⟩, A, k, rfl, hrd, hp, hq, i64_of_wf wr, i64_of_wf wt, hll, hi⟩
instance : Inhabited ItmV := ⟨⟨⟨true, Stp.zero⟩, none, 0⟩⟩
set_option maxRecDepth 100000 in
theorem open_item {fuel : Nat} {cs : List Value} {x : DataW H × List MemPlace} (h : DataW.trod enc Tryd.prog W 0 (fun _ => true) true fuel 57 cs = some x) :
    ∃ v : ItmV, cs = v.cells ∧ (v.rd W W.heap.size ∧ v.x.step.fits) := by
  obtain ⟨y0, y1, n, _, hl, h0, h1⟩ := trod_struct2 Tryd.underlying57 h
  rw [cellsItm] at hl
  match cs, hl with
  | [a, b, c, d, e, f], _ =>
    simp only [cellsBool, cellsStep, List.drop_zero, List.drop_succ_cons, List.take_succ_cons, List.take_zero] at h0 h1
    obtain ⟨m, hm, _⟩ := DataW.trod_bool Tryd.underlying4 h0
    obtain ⟨s, A, k, hs, hrd, hfit⟩ := open_step h1
    simp only [List.cons.injEq, and_true] at hm hs
    obtain ⟨rfl, rfl, rfl, rfl, rfl⟩ := hs
    subst hm
    exact ⟨⟨⟨m, s⟩, A, k⟩, rfl, hrd, hfit⟩
set_option maxRecDepth 100000 in
theorem open_items {fuel : Nat} {v : Value} {y : DataW H × List MemPlace} (h : DataW.trod enc Tryd.prog W 0 (fun _ => true) true fuel 32 [v] = some y) :
    ∃ A c l, v = .slice A (List.length l) c ∧ ItmsAt W W.heap.size A l ∧ (∀ v ∈ l, v.x.step.fits) ∧ List.length l ≤ maxLen := by
  obtain ⟨A, c, l, h1, h2, h3, h4⟩ := open_list 6 (by omega) ItmV.cells (fun _ => rfl) (fun v => v.rd W W.heap.size ∧ v.x.step.fits) Tryd.underlying32 cellsItm (fun hx => open_item hx) h
  exact ⟨A, c, l, h1, ⟨h2, fun v hv => ⟨(h3 v hv).1, (h3 v hv).2.2.2.2.2.1⟩⟩, fun v hv => (h3 v hv).2, h4⟩
set_option maxRecDepth 100000 in
theorem open_items_arg {v : Value} {d : DataW H} {p : List MemPlace} {r : Reach} {b0 : Nat} (hv : Value.okWide Tryd.prog W r b0 32 v) (h : DataW.Trod enc Tryd.prog W 0 (fun _ => true) true 32 v d p) :
    ∃ A c l, v = .slice A (List.length l) c ∧ ItmsAt W W.heap.size A l ∧ (∀ v ∈ l, v.x.step.fits) ∧ List.length l ≤ maxLen := by
  obtain ⟨a, n, c, rfl⟩ := okWide_slice Tryd.underlying32 hv
  obtain ⟨fuel, hf⟩ := h
  exact open_items hf
end
end Go.Proofs.YtnmnbefbadhkgaaDoor
