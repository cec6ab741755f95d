/-
  slices.Insert AT captures: one capture at the front.
-/
import Derived.Test.YtnmnbefbadhkgaaDoorSpanD
import Derived.Test.YtnmnbefbadhkgaaDoorMemB
import Derived.Shelf.RegionOpenPlain
namespace Go.Proofs.YtnmnbefbadhkgaaDoor
open Go Go.RowKit

theorem ins_overlaps (w : World) (gv : Nat) (x : Cap) (hv : Blk w gv 45 x.cells.toArray) {base n cap g off : Nat} {xs : List Value} (ho : Owns w base 45 3 (some ⟨g, off, none⟩) n cap xs) (hcap : 0 < cap) (hne : gv ≠ g) (o m lb cb : Nat) :
    (callFunc 59 #[.slice (some ⟨gv, 0, none⟩) 1 m, .slice (some ⟨g, o, none⟩) lb cb]).run Tryd.prog w = .ok (.value (.bool false)) w := by
  obtain ⟨k, hk, hk'⟩ := ho.shape
  rw [run_callFunc_extern Tryd.func59 (by kernel_rfl) (by kernel_rfl) (by kernel_rfl) (e := Extern.SlicesOverlaps.overlaps #[22, 22] #[4]) (by kernel_rfl),
    Lib.run_overlaps_apart w 22 4 45 Tryd.underlying22 3 Tryd.sizeOf45 ⟨gv, 0, none⟩ ⟨g, o, none⟩ 1 m lb cb hne 45 45 3 k
      (by have := hv; unfold Blk at this; simp [World.shape?, this]; rfl) hk (by omega) (hv.frozen 0) (hv.frozen 3)]
  rfl

def InsSays (w : World) (base : Nat) (A : Option Addr) (x : Cap) (cs : List Cap) (e : Ending) (w' : World) : Prop :=
  ∃ A' cap', e = .returned (.slice A' (cs.length + 1) cap') ∧ Owns w' base 45 3 A' (cs.length + 1) cap' (capCells (x :: cs)) ∧ w.grownBy w' (blockOf A)

theorem capCells_cons (x : Cap) (cs : List Cap) : capCells (x :: cs) = x.cells ++ capCells cs := rfl

set_option maxRecDepth 100000 in
set_option maxHeartbeats 2000000 in
theorem insert_any (w : World) (base : Nat) (A : Option Addr) (cap m : Nat) (cs : List Cap) (x : Cap) (gv : Nat) (hown : Owns w base 45 3 A cs.length cap (capCells cs)) (hv : Blk w gv 45 x.cells.toArray)
    (hne : blockOf A ≠ some gv) (hb : base ≤ w.heap.size) (hn : (cs.length + 1) * 32 ≤ 140737488355328) :
    Calls Tryd.prog 40 #[.slice A cs.length cap, .int .i64 0, .slice (some ⟨gv, 0, none⟩) 1 m] w (InsSays w base A x cs) := by
  have hcap := hown.2.2.1
  unfold maxLen at hcap
  have hlc := hown.2.1
  have hvc : ∀ j u, x.cells[j]? = some u → w.cell? ⟨gv, 0 + j, none⟩ = some u := fun j u hu => by rw [Nat.zero_add, hv.cell]; simpa using hu
  have hx1 : ∀ u ∈ x.cells, u.oneCell' = true := fun u hu => capCells_one [x] u (by simpa [capCells] using hu)
  by_cases h0 : cs.length = 0
  · obtain rfl : cs = [] := List.eq_nil_of_length_eq_zero h0
    have hsrc := Src.ofSlice (P := Tryd.prog) w (size := 3) (tx := 22) Tryd.underlying22 ⟨gv, 0, none⟩ 1 m x.cells rfl (fun j u hu => by rw [add_off]; exact hvc j u hu) hx1
    go_enter Tryd.func40, Tryd.ntmps40
    simp only [List.length_nil] at *
    have HO := Lib.hid hown
    cases A with
    | none =>
      go_wp2_with (at_builtin; go_loud (refine wpList_app w rfl (.tmp 23) (.tmp 24) 22 22 rfl 45 _ 3 32 Tryd.underlying22 infoCap rfl base _ 0 cap _ rfl HO.out _ 1 x.cells rfl hsrc ?_ ?_ ?_ ?_; (focus omega); (focus omega); (focus omega); intro A2 cap2 w2 hown2 hg2 hA2 _))
      go_ret
      exact ⟨A2, cap2, rfl, by simpa [capCells] using hown2, hg2⟩
    | some ad =>
      obtain ⟨g, off, rfl, hbg, _⟩ := hown.2.2.2.2 ad rfl
      go_wp2_with (at_builtin; go_loud (refine wpList_app w rfl (.tmp 23) (.tmp 24) 22 22 rfl 45 _ 3 32 Tryd.underlying22 infoCap rfl base _ 0 cap _ rfl HO.out _ 1 x.cells rfl hsrc ?_ ?_ ?_ ?_; (focus omega); (focus omega); (focus omega); intro A2 cap2 w2 hown2 hg2 hA2 _))
      all_goals
        go_ret
        exact ⟨A2, cap2, rfl, by simpa [capCells] using hown2, hg2⟩
  · have hp : 0 < cs.length := by omega
    have hp' : ¬ ((0 : Int) = (cs.length : Int)) := by omega
    clear h0
    obtain ⟨g, off, rfl, hbg, hlt⟩ := hown.form hp
    have hgv : gv ≠ g := fun e => hne (by rw [e]; rfl)
    have mixed : Tryd.prog.follows .mixedOrders = true := by kernel_rfl
    have hw1 : IntKind.i64.wrap 1 = 1 := by decide
    have hw0 : IntKind.i64.wrap (0 + 1) = 1 := by decide
    have hb3 : (1 : Int) ≤ (cs.length : Int) + 1 := by omega
    have hcl : (capCells cs).length = cs.length * 3 := capCells_length cs
    have hszc : (Tryd.prog.info? 45).map (·.size) = some 3 := by kernel_rfl
    go_enter Tryd.func40, Tryd.ntmps40
    by_cases hroom : cs.length + 1 ≤ cap
    · have hb4 : ¬ (cap = 1) := by omega
      have hb5 : (0 : Int) ≤ (cs.length : Int) + 1 := by omega
      have hb6 : ¬ (cap = 0) := by omega
      obtain ⟨ys, hyl, hown1⟩ := hown.extend (n' := cs.length + 1) (by omega) hroom
      rw [show cs.length + 1 - cs.length = 1 from by omega] at hyl
      have hov := fun o lb cb => ins_overlaps w gv x hv hown (by omega) hgv o m lb cb
      have hcp1 : ∀ ty dc sc, (Builtin.copy_ #[22, 22] ty #[.slice (some ⟨g, off + 3, none⟩) cs.length dc, .slice (some ⟨g, off, none⟩) (cs.length + 1) sc]).run Tryd.prog w.drew = .ok (goInt cs.length) (w.drew.setCells g (off + 3) (capCells cs)) := fun ty dc sc =>
        run_copy_at w.drew _ _ ty 45 3 Tryd.underlying22 hszc g (off + 3) cs.length dc ⟨g, off, none⟩ (cs.length + 1) sc cs.length (capCells cs) (by simp only [Nat.min_def]; split <;> omega) hcl
          (fun j v hj => by
            have hjl : j < cs.length * 3 := by have := (List.getElem?_eq_some_iff.1 hj).1; omega
            rw [add_off, World.cell?_drew, hown.cell hjl]; exact hj)
          (fun j hj => by rw [World.cell?_drew, Nat.add_assoc]; exact hown1.room (by omega)) (fun j hj => by rw [World.frozen?_drew]; exact hown.free _) (capCells_one cs)
      have ho1 := (hown1.drew).splice (capCells cs) 3 (by omega)
      have hv1 := (hv.drew).setCells hgv (off + 3) (capCells cs)
      have hg1 := grownBy_setCells w.drew g (off + 3) (capCells cs)
      obtain ⟨W1, hW1⟩ : ∃ W1, W1 = w.drew.setCells g (off + 3) (capCells cs) := ⟨_, rfl⟩
      rw [← hW1] at hcp1 ho1 hv1 hg1
      have hcp2 : ∀ ty dc, (Builtin.copy_ #[22, 22] ty #[.slice (some ⟨g, off, none⟩) (cs.length + 1) dc, .slice (some ⟨gv, 0, none⟩) 1 m]).run Tryd.prog W1 = .ok (goInt 1) (W1.setCells g off x.cells) := fun ty dc =>
        run_copy_at W1 _ _ ty 45 3 Tryd.underlying22 hszc g off (cs.length + 1) dc ⟨gv, 0, none⟩ 1 m 1 x.cells (by simp only [Nat.min_def]; split <;> omega) rfl
          (fun j v hj => by rw [add_off, Nat.zero_add, hv1.cell]; simpa using hj)
          (fun j hj => ho1.room (by simp [Cap.cells] at hj; omega)) (fun j hj => ho1.free _) hx1
      have ho2 := ho1.splice x.cells 0 (by simp [Cap.cells]; omega)
      have hg2 := grownBy_setCells W1 g off x.cells
      have HO := Lib.hid ho2
      have HG := Lib.hid hg1
      have HG2 := Lib.hid hg2
      clear ho1 ho2 hg1 hg2 hW1 hown1
      go_wp2_with (simp only [hov])
      go_region_law_o (refine step_copy_at rfl _ _ 22 22 rfl _ _ (by simp [Act.eval, Act.put]) (by simp [Act.eval, Act.put]) (hcp1 _ _ _) ?_)
      go_wp2_with (at_builtin; refine wpList_copy_at _ rfl _ _ 22 22 rfl _ _ rfl rfl (hcp2 _ _) ?_)
      go_ret
      refine ⟨some ⟨g, off, none⟩, cap, rfl, ?_, ?_⟩
      · have h := HO.out
        have e : List.take 0 (List.take 3 (capCells cs ++ ys) ++ capCells cs ++ List.drop (3 + (capCells cs).length) (capCells cs ++ ys)) ++ x.cells ++ List.drop (0 + x.cells.length) (List.take 3 (capCells cs ++ ys) ++ capCells cs ++ List.drop (3 + (capCells cs).length) (capCells cs ++ ys)) = capCells (x :: cs) := by
          have h3 : (List.take 3 (capCells cs ++ ys)).length = 3 := by rw [List.length_take, List.length_append]; omega
          have h4 : List.drop (3 + (capCells cs).length) (capCells cs ++ ys) = [] := List.drop_eq_nil_of_le (by rw [List.length_append]; omega)
          have h5 : x.cells.length = 3 := rfl
          rw [h4, List.append_nil, h5, List.take_zero, List.nil_append, Nat.zero_add, List.drop_append_of_le_length (by omega), List.drop_eq_nil_of_le (by omega), List.nil_append, capCells_cons]
        rw [e] at h
        exact h
      · have g1 := HG.out
        have g2 := HG2.out
        exact ⟨g2.os.trans g1.os, g2.tape.trans g1.tape, g2.output.trans g1.output, Nat.le_trans g1.size g2.size, fun k hk hne => (g2.block k (by have := g1.size; simp at this; omega) hne).trans (g1.block k (by simpa using hk) hne)⟩
    · have hb6 : ¬ (cap = 0) := by omega
      have hb7 : (cap : Int) < (cs.length : Int) + 1 := by omega
      have hb5 : (0 : Int) ≤ (cs.length : Int) + 1 := by omega
      go_wp2_with (at_builtin; go_loud (refine wpList_app_zeros w rfl (.tmp 34) (.tmp 39) 22 3 rfl 45 _ 3 32 .i64 .i64 Tryd.underlying22 Tryd.underlying3 infoCap rfl (by decide) (some ⟨g, off, none⟩) cap (cs.length + 1) rfl (by simp [Act.eval]) ?_ ?_ hn ?_; (focus omega); (focus omega); intro cap' w1 zs ho1 hb1))
      obtain ⟨N, hN⟩ : ∃ N, w.heap.size = N := ⟨_, rfl⟩
      rw [hN] at ho1 hb1 hlt hb ⊢
      have hgvlt : gv < N := by have := hv.lt; omega
      have hv1 : Blk w1 gv 45 x.cells.toArray := hv.below hb1 hgvlt
      have hold1 := hown.below hb1 (by omega)
      have hcap1 := ho1.2.2.1
      unfold maxLen at hcap1
      have hc1 : ¬ (cap' = 1) := by have := ho1.2.1; omega
      have hc0 : ¬ (cap' = 0) := by have := ho1.2.1; omega
      have hcp1 : ∀ ty dc, (Builtin.copy_ #[22, 22] ty #[.slice (some ⟨N, 0, none⟩) (cs.length + 1) dc, .slice (some ⟨gv, 0, none⟩) 1 m]).run Tryd.prog w1 = .ok (goInt 1) (w1.setCells N 0 x.cells) := fun ty dc =>
        run_copy_at w1 _ _ ty 45 3 Tryd.underlying22 hszc N 0 (cs.length + 1) dc ⟨gv, 0, none⟩ 1 m 1 x.cells (by simp only [Nat.min_def]; split <;> omega) rfl
          (fun j v hj => by rw [add_off, Nat.zero_add, hv1.cell]; simpa using hj)
          (fun j hj => ho1.room (by simp [Cap.cells] at hj; omega)) (fun j hj => ho1.free _) hx1
      have ho2 := ho1.splice x.cells 0 (by simp [Cap.cells]; omega)
      have hg2 := grownBy_setCells w1 N 0 x.cells
      have hold2 : Owns (w1.setCells N 0 x.cells) base 45 3 (some ⟨g, off, none⟩) cs.length cap (capCells cs) := hold1.grown hg2 (fun k hk e => by cases hk; simp at e; omega)
      obtain ⟨W2, hW2⟩ : ∃ W2, W2 = w1.setCells N 0 x.cells := ⟨_, rfl⟩
      rw [Nat.zero_add] at ho2
      rw [← hW2] at hcp1 ho2 hg2 hold2
      have hcp2 : ∀ ty dc sc, (Builtin.copy_ #[22, 22] ty #[.slice (some ⟨N, 3, none⟩) cs.length dc, .slice (some ⟨g, off, none⟩) cs.length sc]).run Tryd.prog W2.drew = .ok (goInt cs.length) (W2.drew.setCells N 3 (capCells cs)) := fun ty dc sc =>
        run_copy_at W2.drew _ _ ty 45 3 Tryd.underlying22 hszc N 3 cs.length dc ⟨g, off, none⟩ cs.length sc cs.length (capCells cs) (by simp) hcl
          (fun j v hj => by
            have hjl : j < cs.length * 3 := by have := (List.getElem?_eq_some_iff.1 hj).1; omega
            rw [add_off, World.cell?_drew, hold2.cell hjl]; exact hj)
          (fun j hj => by
            have := ho2.room (j := 3 + j) (by have := ho2.2.1; omega)
            rw [Nat.zero_add] at this
            rw [World.cell?_drew]; exact this) (fun j hj => by rw [World.frozen?_drew]; exact ho2.free _) (capCells_one cs)
      have ho3 := (ho2.drew).splice (capCells cs) 3 (by omega)
      rw [Nat.zero_add] at ho3
      have hg3 := grownBy_setCells W2.drew N 3 (capCells cs)
      have HO := Lib.hid ho3
      have HG := Lib.hid hg2
      have HG2 := Lib.hid hg3
      have hzl := ho1.1
      clear ho1 ho2 ho3 hg2 hg3 hW2 hold1 hold2
      go_wp2_with (at_builtin; refine wpList_copy_at _ rfl _ _ 22 22 rfl _ _ rfl rfl (hcp1 _ _) ?_)
      go_wp2_with (simp only [hcp1])
      go_region_law_o (refine step_copy_at rfl _ _ 22 22 rfl _ _ (by simp [Act.eval, Act.put]) (by simp [Act.eval, Act.put]) (hcp2 _ _ _) ?_)
      go_wp2
      go_ret
      refine ⟨some ⟨N, 0, none⟩, cap', rfl, ?_, ?_⟩
      · have h := HO.out
        have e : List.take 3 (List.take 0 zs ++ x.cells ++ List.drop x.cells.length zs) ++ capCells cs ++ List.drop (3 + (capCells cs).length) (List.take 0 zs ++ x.cells ++ List.drop x.cells.length zs) = capCells (x :: cs) := by
          have h5 : x.cells.length = 3 := rfl
          rw [List.take_zero, List.nil_append, List.take_append_of_le_length (by omega), List.take_of_length_le (by omega), List.drop_eq_nil_of_le (by rw [List.length_append, List.length_drop]; omega), List.append_nil, capCells_cons]
        rw [Nat.zero_add, e] at h
        exact h.mono (by omega)
      · have g1 := HG.out
        have g2 := HG2.out
        have z1 := hb1.size
        have z2 := g1.size
        exact ⟨g2.os.trans (g1.os.trans hb1.os), g2.tape.trans (g1.tape.trans hb1.tape), g2.output.trans (g1.output.trans hb1.output), by have := g2.size; simp at this; omega,
          fun k hk hne => (g2.block k (by simp; omega) (by simp; omega)).trans ((g1.block k (by omega) (by simp; omega)).trans (hb1.block k (by omega)))⟩
end Go.Proofs.YtnmnbefbadhkgaaDoor
