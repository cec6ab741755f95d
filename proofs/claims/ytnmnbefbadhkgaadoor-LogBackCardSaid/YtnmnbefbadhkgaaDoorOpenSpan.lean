/-
  OUTCOMES AS ARGUMENTS: what a reading of an outcome gives the walks.
-/
import Derived.Test.YtnmnbefbadhkgaaDoorSpanA
import Derived.Test.YtnmnbefbadhkgaaDoorLaw
import Derived.Deep.Strs
import Derived.Deep.Fields
namespace Go.Proofs.YtnmnbefbadhkgaaDoor
open Go Go.RowKit Go.WideShapes Go.ChangeShapes Go.Deep

instance : Inhabited Cap := ⟨⟨⟨#[]⟩, 0, 0⟩⟩
theorem i64_of_wf {n : Int} (h : (Lit.int .i64 n).wf = true) : isI64 n := by
  simp [Lit.wf, IntKind.min, IntKind.max, IntKind.signed, IntKind.bits] at h
  unfold isI64
  omega

theorem cellsCap : Tryd.prog.cellsOf 45 = 3 := by kernel_rfl
theorem cellsInt : Tryd.prog.cellsOf 3 = 1 := by kernel_rfl
theorem cellsString : Tryd.prog.cellsOf 9 = 1 := by kernel_rfl
theorem cellsOut : Tryd.prog.cellsOf 24 = 3 := by kernel_rfl

section
variable {H : Type} {enc : TypeId × Value → H} {W : World}

set_option maxRecDepth 100000 in
theorem open_cap {fuel : Nat} {cs : List Value} {x : DataW H × List MemPlace} (h : DataW.trod enc Tryd.prog W 0 (fun _ => true) true fuel 45 cs = some x) : ∃ c : Cap, cs = c.cells ∧ c.fits := by
  obtain ⟨y0, y1, y2, n, _, hl, h0, h1, h2⟩ := trod_struct3 Tryd.underlying45 h
  rw [cellsCap] at hl
  match cs, hl with
  | [a, b, c], _ =>
    simp only [cellsInt, cellsString, List.drop_zero, List.drop_succ_cons, List.take_succ_cons, List.take_zero] at h0 h1 h2
    obtain ⟨s, hs, _, hsz⟩ := DataW.trod_string Tryd.underlying9 h0
    obtain ⟨f, hf, _, wf⟩ := DataW.trod_int Tryd.underlying3 h1
    obtain ⟨t, ht, _, wt⟩ := DataW.trod_int Tryd.underlying3 h2
    simp only [List.cons.injEq, and_true] at hs hf ht
    subst hs hf ht
    exact ⟨⟨s, f, t⟩, rfl, hsz, i64_of_wf wf, i64_of_wf wt⟩

theorem open_caps {fuel : Nat} {v : Value} {y : DataW H × List MemPlace} (h : DataW.trod enc Tryd.prog W 0 (fun _ => true) true fuel 22 [v] = some y) :
    ∃ A c caps, v = .slice A (List.length caps) c ∧ Reads W W.heap.size 3 A (List.length caps) (capCells caps) ∧ (∀ c ∈ caps, c.fits) ∧ List.length caps ≤ maxLen := by
  rcases open_slice Tryd.underlying22 h with ⟨hv, _⟩ | ⟨a, len, cap, m, n, D, Pl, hv, _, hlc, hcm, hmm, _, hx⟩
  · simp only [List.cons.injEq, and_true] at hv
    exact ⟨none, 0, [], hv, Reads.none_, by simp, Nat.zero_le _⟩
  · simp only [List.cons.injEq, and_true] at hv
    simp only [if_true] at hmm
    have hx' : ∀ i, i < len → ∃ c : Cap, c.fits ∧ ∀ j, j < 3 → W.cell? ((a.add (i * 3)).add j) = c.cells[j]? := fun i hi => by
      obtain ⟨cs', h1, h2⟩ := hx i (by omega)
      rw [cellsCap] at h1
      obtain ⟨c, rfl, hf⟩ := open_cap h2
      exact ⟨c, hf, fun j hj => (World.cells?_some h1).2.2 j hj⟩
    obtain ⟨f, hf⟩ := choose_lt hx'
    have hlen : ((List.range len).map f).length = len := by simp
    refine ⟨some a, cap, (List.range len).map f, by rw [hv, hlen], ?_, ?_, by rw [hlen]; omega⟩
    · rw [hlen]
      refine ⟨by rw [capCells_length, hlen], fun hpos => ?_⟩
      have c0 := (hf 0 hpos).2 0 (by omega)
      rw [show (f 0).cells[0]? = some (.string (f 0).name) from rfl, Nat.zero_mul] at c0
      have hsp := World.cell?_spot c0
      obtain ⟨g, off, spot⟩ := a
      have hspot : spot = none := by simpa [Addr.add] using hsp
      subst hspot
      have hadd : ∀ i j : Nat, (((⟨g, off, none⟩ : Addr).add i).add j) = ⟨g, off + (i + j), none⟩ := fun i j => by
        unfold Addr.add
        by_cases h1 : i = 0 <;> by_cases h2 : j = 0 <;> simp [h1, h2, Nat.add_assoc]
      refine ⟨g, off, rfl, ?_, fun j u hu => ?_⟩
      · have := World.block_lt_of_cell? W _ c0
        rw [hadd] at this
        exact this
      · have hjl : j < len * 3 := by have := (List.getElem?_eq_some_iff.1 hu).1; rw [capCells_length, hlen] at this; exact this
        have hk : j / 3 < len := by omega
        have e := flat3 Cap.cells (fun _ => rfl) ((List.range len).map f) (j / 3) (f (j / 3)) (by simp [hk]) (j % 3) (Nat.mod_lt _ (by omega))
        rw [show j / 3 * 3 + j % 3 = j from by omega] at e
        rw [show capCells ((List.range len).map f) = ((List.range len).map f).flatMap Cap.cells from rfl, e] at hu
        have := (hf (j / 3) hk).2 (j % 3) (Nat.mod_lt _ (by omega))
        rw [hadd, show j / 3 * 3 + j % 3 = j from by omega] at this
        exact this.trans hu
    · intro c hc
      obtain ⟨i, hi, rfl⟩ := List.mem_map.1 hc
      exact (hf i (List.mem_range.1 hi)).1

set_option maxRecDepth 100000 in
theorem open_out {v : Value} {d : DataW H} {p : List MemPlace} {r : Reach} {b0 : Nat} (hv : Value.okWide Tryd.prog W r b0 24 v) (h : DataW.Trod enc Tryd.prog W 0 (fun _ => true) true 24 v d p) :
    ∃ (ok : Bool) (tt : Int) (A : Option Addr) (c : Nat) (caps : List Cap), v = .agg #[.bool ok, .int .i64 tt, .slice A caps.length c] ∧ Reads W W.heap.size 3 A caps.length (capCells caps) ∧ isI64 tt ∧ caps.length ≤ maxLen ∧ ∀ c ∈ caps, c.fits := by
  obtain ⟨v0, v1, v2, y0, y1, y2, n, rfl, _, _, h0, h1, h2⟩ := Joins.open_agg3 Tryd.underlying24 (by kernel_rfl) cellsOut hv h
  obtain ⟨b, hb, _⟩ := DataW.trod_bool Tryd.underlying4 h0
  obtain ⟨t, ht, _, wt⟩ := DataW.trod_int Tryd.underlying3 h1
  obtain ⟨A, c, caps, rfl, hr, hf, hl⟩ := open_caps h2
  simp only [List.cons.injEq, and_true] at hb ht
  subst hb ht
  exact ⟨b, t, A, c, caps, rfl, hr, i64_of_wf wt, hl, hf⟩
end
end Go.Proofs.YtnmnbefbadhkgaaDoor
