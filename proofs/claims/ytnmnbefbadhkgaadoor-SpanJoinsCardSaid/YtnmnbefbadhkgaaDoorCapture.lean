/-
  span.Cap: its walk; first.
-/
import Derived.Test.YtnmnbefbadhkgaaDoorJoin
import Derived.Test.YtnmnbefbadhkgaaDoorFree
namespace Go.Proofs.YtnmnbefbadhkgaaDoor
open Go Go.RowKit

structure CInv (w : World) (v0 v1 v2 r0 r1 r2 : Value) (w' : World) : Prop where
  a : Blk w' w.heap.size 24 #[v0, v1, v2]
  r : Blk w' (w.heap.size + 1) 24 #[r0, r1, r2]
  bel : Below w.heap.size w w'
  z : w.heap.size + 2 ≤ w'.heap.size
section
variable {w : World} {v0 v1 v2 r0 r1 r2 : Value} {w' w'' : World}
theorem CInv.below (h : CInv w v0 v1 v2 r0 r1 r2 w') (hb : Below w'.heap.size w' w'') : CInv w v0 v1 v2 r0 r1 r2 w'' :=
  ⟨h.a.below hb h.a.lt, h.r.below hb h.r.lt, h.bel.trans (hb.mono h.bel.size), Nat.le_trans h.z hb.size⟩
theorem CInv.drew (h : CInv w v0 v1 v2 r0 r1 r2 w') : CInv w v0 v1 v2 r0 r1 r2 w'.drew := h.below (Below.refl _ _).drew
theorem CInv.alloc (h : CInv w v0 v1 v2 r0 r1 r2 w') (o : Obj) : CInv w v0 v1 v2 r0 r1 r2 (w'.alloc o) := h.below ((Below.refl _ _).alloc (Nat.le_refl _) o)
theorem CInv.cells (h : CInv w v0 v1 v2 r0 r1 r2 w') : w'.cell? ⟨w.heap.size, 1, none⟩ = some v1 ∧ w'.cell? ⟨w.heap.size, 2, none⟩ = some v2 := ⟨h.a.three.1.2.1, h.a.three.1.2.2⟩
theorem CInv.grown (h : CInv w v0 v1 v2 r0 r1 r2 w') {row : Option Nat} (hg : w'.grownBy w'' row) (hr : ∀ k, row = some k → w.heap.size + 2 ≤ k) : CInv w v0 v1 v2 r0 r1 r2 w'' :=
  ⟨h.a.grown hg (fun e => by have := hr _ e.symm; omega), h.r.grown hg (fun e => by have := hr _ e.symm; omega), h.bel.grown hg (Nat.le_trans (by omega) h.z) (fun k hk => by have := hr _ hk; omega), Nat.le_trans h.z hg.size⟩
end
theorem CInv.start (w : World) (v0 v1 v2 r0 r1 r2 : Value) : CInv w v0 v1 v2 r0 r1 r2 ((w.alloc (.cells #[v0, v1, v2] 24)).alloc (.cells #[r0, r1, r2] 24)) := by
  refine ⟨(Blk.new_ w _ _).alloc _, ?_, ((Below.refl _ _).alloc (Nat.le_refl _) _).alloc (by simp) _, by simp⟩
  have := Blk.new_ (w.alloc (.cells #[v0, v1, v2] 24)) 24 #[r0, r1, r2]
  simpa using this

/-- What Clone tells here. -/
def capSpec1 (w : World) (cs : List Cap) : FreeSpec where
  rho v := ∃ A cap, v = .slice A cs.length cap
  R v w' := ∃ A cap, v = .slice A cs.length cap ∧ Owns w' (w.heap.size + 2) 45 3 A cs.length cap (capCells cs)
  born v := match v with | .slice A _ _ => blockOf A | _ => none
/-- .. and the one capture's own row. -/
def capSpec2 (w : World) (x : Cap) : FreeSpec where
  rho v := ∃ g, v = .slice (some ⟨g, 0, none⟩) 1 1
  R v w' := ∃ g, v = .slice (some ⟨g, 0, none⟩) 1 1 ∧ Blk w' g 45 x.cells.toArray ∧ w.heap.size + 2 ≤ g
  born v := match v with | .slice A _ _ => blockOf A | _ => none
theorem capSpec1_stays (w : World) (cs : List Cap) (v : Value) : Stays ((capSpec1 w cs).R v) := fun w1 w2 ⟨A, cap, e, h⟩ hb => ⟨A, cap, e, h.below hb (Nat.le_refl _)⟩
theorem capSpec2_stays (w : World) (x : Cap) (v : Value) : Stays ((capSpec2 w x).R v) := fun w1 w2 ⟨g, e, h, hz⟩ hb => ⟨g, e, h.below hb h.lt, hz⟩

set_option maxRecDepth 100000 in
set_option maxHeartbeats 4000000 in
theorem cap_any (w : World) (name : ByteArray) (fr : Int) (x : OutV) (hx : x.rd w w.heap.size) (hn : (x.o.caps.length + 1) * 32 ≤ 140737488355328) :
    Calls Tryd.prog 21 #[.string name, .int .i64 fr, x.val] w (OutSays w (capO name fr x.o)) := by
  obtain ⟨⟨ok1, t1, l1⟩, A1, c1⟩ := x
  simp only [OutV.rd, OutV.val] at *
  have h0 := CInv.start w (.bool ok1) (.int .i64 t1) (.slice A1 l1.length c1) (.bool false) (.int .i64 0) (.slice none 0 0)
  go_enter Tryd.func21, Tryd.ntmps21
  cases ok1
  · go_wp2_with fail
    refine (fail_any _).mono ?_
    rintro e w2 ⟨rfl, hb2⟩
    have h2 := h0.below hb2
    obtain ⟨⟨r0, r1, r2⟩, q0, q1, q2⟩ := h2.r.three
    have hz := h2.z
    go_wp2
    have h3 := ((h2.r.set_ 0 (.bool false)).set_ 1 (.int .i64 0)).set_ 2 (.slice none 0 0)
    obtain ⟨⟨s0, s1, s2⟩, _⟩ := (show Blk _ _ _ #[.bool false, .int .i64 0, .slice none 0 0] from by simpa using h3).three
    exact bodyPost_ret (v := .agg #[.bool false, .int .i64 0, .slice none 0 0]) (by simp [results, Tryd.results21, go_sem, s0, s1, s2]) rfl ⟨none, 0, rfl, Owns.nil_ _ _ _ _, below_st3 (g := w.heap.size + 1) h2.bel (by omega) _ _ _⟩
  · go_wp2
    refine region_free_tail (CInv w (.bool true) (.int .i64 t1) (.slice A1 l1.length c1) (.bool false) (.int .i64 0) (.slice none 0 0)) (fun | 2 => some (capSpec1 w l1) | 8 => some (capSpec2 w ⟨name, fr, t1⟩) | _ => none) 9 [9, 10, 11]
      (by kernel_rfl) (by decide +kernel) (by decide +kernel) rfl (by decide +kernel) rfl ?hS ?hCs h0.drew ?h
    case hS =>
      intro k s hs
      split at hs <;> cases hs
      · exact ⟨⟨_, none, 0, rfl⟩, capSpec1_stays w l1⟩
      · exact ⟨⟨_, 0, rfl⟩, capSpec2_stays w _⟩
    case hCs => exact fun w1 w2 h hb => h.below hb
    simp only [List.take_succ_cons, List.take_zero, idx, Nat.reduceAdd]
    iterate 2
      refine w_pure (by rfl) rfl ?_
      apply Exists.intro
      refine And.intro (fun w4 hC hF => ?_) ?_
      (focus (obtain ⟨m1, m2⟩ := hC.cells; unfold gives; go_simp; try with_reducible rfl))
      simp only [Act.put, List.setIfInBounds_toArray, List.set_cons_zero, List.set_cons_succ]
    refine w_free (by rfl) rfl (fun w4 hC hF hG => ?_) ?_
    · unfold does
      go_simp
      refine Calls.mono (clone_any w4 w.heap.size A1 c1 l1 (hx.below hC.bel) hC.bel.size (by omega)) ?_
      rintro e w5 ⟨A', cap', rfl, hown, hb⟩
      exact ⟨_, rfl, ⟨A', cap', rfl⟩, ⟨A', cap', rfl, hown.mono hC.z⟩, fun g hg => hown.lt g hg, hb⟩
    rintro v ⟨A', cap', rfl⟩
    simp only [Act.put, List.setIfInBounds_toArray, List.set_cons_zero, List.set_cons_succ]
    iterate 5
      refine w_pure (by rfl) rfl ?_
      apply Exists.intro
      refine And.intro (fun w4 hC hF => ?_) ?_
      (focus (obtain ⟨m1, m2⟩ := hC.cells; unfold gives; go_simp; try with_reducible rfl))
      simp only [Act.put, List.setIfInBounds_toArray, List.set_cons_zero, List.set_cons_succ]
    refine w_free (by rfl) rfl (fun w4 hC hF hG => ?_) ?_
    · unfold does
      go_simp
      exact ⟨⟨_, rfl⟩, ⟨_, rfl, Blk.new_ _ _ _, hC.z⟩, fun g hg => by cases hg; simp, (Below.refl _ _).alloc (Nat.le_refl _) _⟩
    rintro v ⟨gv, rfl⟩
    simp only [Act.put, List.setIfInBounds_toArray, List.set_cons_zero, List.set_cons_succ]
    refine w_end (fun w4 hC hF hG => ?_)
    have h2 : (capSpec1 w l1).R (.slice A' l1.length cap') w4 := hF 2
    have h8 : (capSpec2 w ⟨name, fr, t1⟩).R (.slice (some ⟨gv, 0, none⟩) 1 1) w4 := hF 8
    have hne : blockOf A' ≠ some gv := fun e => hG 2 8 (by decide) gv e rfl
    clear hF hG
    obtain ⟨_, _, e, hown⟩ := h2
    cases e
    obtain ⟨_, e, hblk, hgz⟩ := h8
    cases e
    have hoz := hown.lt
    have hcz := hC.z
    simp only [List.drop_succ_cons, List.drop_zero]
    go_wp2_with fail
    refine (insert_any w4 (w.heap.size + 2) A' cap' 1 l1 ⟨name, fr, t1⟩ gv hown hblk hne hcz hn).mono ?_
    rintro e w5 ⟨A3, cap3, rfl, hown3, hg3⟩
    have h3 := hC.grown hg3 (fun k hk => (hoz k hk).1)
    obtain ⟨⟨s0, s1, s2⟩, q0, q1, q2⟩ := h3.a.three
    obtain ⟨⟨r0, r1, r2⟩, p0, p1, p2⟩ := h3.r.three
    have HO := Lib.hid hown3
    have hz3 := h3.z
    clear hown hown3 hblk hg3
    go_wp2
    have hr := (((h3.r.far (p := ⟨w.heap.size, 2, none⟩) (by simp) (.slice A3 (l1.length + 1) cap3)).set_ 0 (.bool true)).set_ 1 (.int .i64 t1)).set_ 2 (.slice A3 (l1.length + 1) cap3)
    obtain ⟨⟨z0, z1, z2⟩, _⟩ := (show Blk _ _ _ #[.bool true, .int .i64 t1, .slice A3 (l1.length + 1) cap3] from by simpa using hr).three
    refine bodyPost_ret (v := .agg #[.bool true, .int .i64 t1, .slice A3 (l1.length + 1) cap3]) (by simp [results, Tryd.results21, go_sem, z0, z1, z2]) rfl ⟨A3, cap3, rfl, ?_, ?_⟩
    · have hne : ∀ (k : Nat) (p : Addr), p.block < w.heap.size + 2 → blockOf A3 ≠ some p.block := fun k p hp e => by have := (HO.out.lt _ e).1; omega
      exact ((((HO.out.setCell (hne 0 _ (by simp)) _).setCell (hne 0 _ (by simp)) _).setCell (hne 0 _ (by simp)) _).setCell (hne 0 _ (by simp)) _).mono (by omega)
    · refine below_st3 (g := w.heap.size + 1) ?_ (by omega) _ _ _
      exact h3.bel.setCell (p := ⟨w.heap.size, 2, none⟩) (Nat.le_refl _) _

/-- Where an outcome's captures begin; where it ends, if there are none. -/
def firstO (o : Out) : Int := match o.caps with | c :: _ => c.fr | [] => o.to
set_option maxRecDepth 100000 in
theorem first_any (w : World) (B : Nat) (x : OutV) (hx : x.rd w B) (hB : B ≤ w.heap.size) :
    Calls Tryd.prog 20 #[x.val] w fun e w' => e = .returned (.int .i64 (firstO x.o)) ∧ Below w.heap.size w w' := by
  obtain ⟨⟨ok1, t1, l1⟩, A1, c1⟩ := x
  simp only [OutV.rd, OutV.val] at *
  have hx1 := hx.alloc hB (.cells #[.bool ok1, .int .i64 t1, .slice A1 l1.length c1] 24)
  go_enter Tryd.func20, Tryd.ntmps20
  cases l1 with
  | nil =>
    simp only [List.length_nil] at *
    go_wp2
    go_ret
    exact ⟨rfl, (Below.refl _ _).alloc (Nat.le_refl _) _⟩
  | cons c0 l =>
    have hp : 0 < (c0 :: l).length := by simp
    have hp' : (0 : Int) < ((c0 :: l).length : Int) := by omega
    obtain ⟨g, off, hA, hb, d0, d1, d2⟩ := hx1.cap hp
    subst hA
    obtain ⟨n, hn⟩ : ∃ n, (c0 :: l).length = n := ⟨_, rfl⟩
    simp only [Nat.zero_mul, Nat.add_zero, List.getElem_cons_zero] at d0 d1 d2
    have hp2 : 0 < n := by omega
    rw [hn] at d0 d1 d2 ⊢
    clear hn hx hx1 hp hp'
    go_wp2
    go_ret
    exact ⟨rfl, (Below.refl _ _).alloc (Nat.le_refl _) _⟩
end Go.Proofs.YtnmnbefbadhkgaaDoor
