/-
  WALK: span.Shift where the outcome is moved.
-/
import Derived.Test.YtnmnbefbadhkgaaDoorSpanD
namespace Go.Proofs.YtnmnbefbadhkgaaDoor
open Go.RowKit

/-- What 'Shift' leaves where it moves. -/
def ShiftSays (w : World) (to : Int) (cs : List Cap) (e : Ending) (w' : World) : Prop :=
  ∃ A' cap', e = .returned (.tuple #[.agg #[.bool true, .int .i64 to, .slice A' cs.length cap'], .bool true]) ∧ Owns w' w.heap.size 45 3 A' cs.length cap' (capCells cs) ∧ Below w.heap.size w w'

/-- The state at the head of Shift's second loop: so many captures have been moved. -/
def MoveRel (w wr : World) (G : Nat) (v0 v1 : Value) (A' : Option Addr) (cap' : Nat) (by_ : Int) (cs : List Cap) (i : Value) : Prop :=
  ∃ k, i = .int .i64 (k : Nat) ∧ k ≤ cs.length ∧ Owns wr (w.heap.size + 2) 45 3 A' cs.length cap' (capCells ((cs.take k).map (Cap.mv by_) ++ cs.drop k)) ∧ Below w.heap.size w wr ∧ G < wr.heap.size ∧
    Blk wr (w.heap.size + 1) 24 #[.bool false, .int .i64 0, .slice none 0 0] ∧ Blk wr G 24 #[v0, v1, .slice A' cs.length cap']

theorem mv_cell (cs : List Cap) (by_ : Int) (k : Nat) (hk : k < cs.length) (j : Nat) (hj : j < 3) : (capCells ((cs.take k).map (Cap.mv by_) ++ cs.drop k))[k * 3 + j]? = (cs[k]).cells[j]? := by
  refine flat3 Cap.cells (fun _ => rfl) _ k cs[k] ?_ j hj
  rw [List.getElem?_append_right (by simp; omega), List.getElem?_drop]
  simp only [List.length_map, List.length_take]
  rw [show k + (k - min k cs.length) = k from by omega]
  exact List.getElem?_eq_getElem hk

theorem mv_set (cs : List Cap) (by_ : Int) (k : Nat) (hk : k < cs.length) :
    ((capCells ((cs.take k).map (Cap.mv by_) ++ cs.drop k)).set (k * 3 + 1) (.int .i64 (cs[k].fr + by_))).set (k * 3 + 2) (.int .i64 (cs[k].to + by_)) = capCells ((cs.take (k + 1)).map (Cap.mv by_) ++ cs.drop (k + 1)) := by
  have hl : (capCells ((cs.take k).map (Cap.mv by_))).length = k * 3 := by rw [capCells_length]; simp; omega
  have ht : cs.take (k + 1) = cs.take k ++ [cs[k]] := by rw [List.take_succ_eq_append_getElem hk]
  rw [drop_cons hk, ht, List.map_append, capCells_append, capCells_append, capCells_append, List.append_assoc]
  rw [List.set_append_right _ _ (by omega), hl, show k * 3 + 1 - k * 3 = 1 from by omega, List.set_append_right _ _ (by omega), hl, show k * 3 + 2 - k * 3 = 2 from by omega]
  congr 1

set_option maxRecDepth 100000 in
set_option maxHeartbeats 2000000 in
theorem shift_ok (w : World) (A : Option Addr) (c : Nat) (to by_ : Int) (caps : List Cap) (hr : Reads w w.heap.size 3 A caps.length (capCells caps)) (hf : Out.fits ⟨true, to, caps⟩) (hm : Good ⟨true, to, caps⟩ 4096)
    (hn0 : -(leastOf to caps) ≤ by_) (hn1 : to + by_ ≤ 4096) :
    Calls Tryd.prog 10 #[.agg #[.bool true, .int .i64 to, .slice A caps.length c], .int .i64 by_] w (ShiftSays w (to + by_) (caps.map (Cap.mv by_))) := by
  have h1 := (hr.alloc (Nat.le_refl _) (.cells #[.bool true, .int .i64 to, .slice A caps.length c] 24)).alloc (by simp) (.cells #[.bool false, .int .i64 0, .slice none 0 0] 24)
  have HM := Lib.hid ((good_iff _ _ rfl).2 hm)
  have hl0 := hm.least.1
  have hl1 := hm.least.2
  have ht0 := hm.t0
  have ht1 := hm.t1
  have hcnt := hm.cnt
  dsimp only at hl0 hl1 ht0 ht1 hcnt
  go_enter Tryd.func10, Tryd.ntmps10
  go_wp2_with fail
  refine (spanMay_at _ w.heap.size A c true to 4096 caps h1 (by simp; omega) hf).mono ?_
  rintro e w1 ⟨rfl, hb1⟩
  rw [HM.out]
  have bk0 := ((Blk.new_ w 24 #[.bool true, .int .i64 to, .slice A caps.length c]).alloc (.cells #[.bool false, .int .i64 0, .slice none 0 0] 24)).below hb1 (by simp; omega)
  have bk1 := (Blk.new_ (w.alloc (.cells #[.bool true, .int .i64 to, .slice A caps.length c] 24)) 24 #[.bool false, .int .i64 0, .slice none 0 0]).below hb1 (by simp)
  rw [World.size_alloc] at bk1
  have hz1 : w.heap.size + 1 < w1.heap.size := by have := hb1.size; simp at this; omega
  have hbw : Below w.heap.size w w1 := (((Below.refl _ _).alloc (Nat.le_refl _) _).alloc (by simp) _).trans (hb1.mono (by simp; omega))
  obtain ⟨⟨k0, k1, k2⟩, f0, f1, f2⟩ := bk0.three
  clear h1 hb1
  go_wp2
  go_loopw [6, 24] (fun l i wr => LeastRel w wr (.bool true) (.int .i64 to) (.slice A caps.length c) to caps l i) (fun _ i _ => caps.length - (intOf i).toNat)
  case atStart => exact ⟨0, to, rfl, rfl, by omega, rfl, hbw, hz1, bk0, bk1⟩
  case round =>
    obtain ⟨k, l, rfl, rfl, hk, hle, hb, hz, b0, b1⟩ := hrel
    obtain ⟨⟨m0, m1, m2⟩, n0, n1, n2⟩ := b0.three
    obtain ⟨⟨r0, r1, r2⟩, q0, q1, q2⟩ := b1.three
    clear k0 k1 k2 f0 f1 f2 bk0 bk1
    by_cases hkn : k < caps.length
    · obtain ⟨g, off, rfl, hg1, c0, c1, c2⟩ := hr.cap hkn
      rw [drop_cons hkn] at hle
      obtain ⟨x, hx⟩ : ∃ x, caps[k] = x := ⟨_, rfl⟩
      rw [hx] at c0 c1 c2 hle
      have e0 := (hb.cell (p := ⟨g, off + k * 3, none⟩) hg1).trans c0
      have e1 := (hb.cell (p := ⟨g, off + k * 3 + 1, none⟩) hg1).trans c1
      have e2 := (hb.cell (p := ⟨g, off + k * 3 + 2, none⟩) hg1).trans c2
      have HE := Lib.hid hle
      clear hle hx c0 c1 c2
      go_wp2
      go_roundw
      case rel => exact ⟨k + 1, _, by go_num, rfl, by omega, by rw [HE.out]; show leastOf (min l x.fr) _ = _; rw [min_if], hb.alloc (by omega) _, by simp; omega, b0.alloc _, b1.alloc _⟩
      case measure => simp [intOf]; omega
    · obtain rfl : k = caps.length := by omega
      rw [List.drop_length] at hle
      obtain rfl : l = leastOf to caps := hle.symm
      clear hle
      have g1 : ¬ by_ < -(leastOf to caps) := by omega
      have g2 : ¬ 4096 - to < by_ := by omega
      have hlt4 : leastOf to caps ≤ 4096 := by omega
      go_wp2_with fail
      refine (copy_any _ w.heap.size A c true to caps (hr.below hb) (by omega) (by omega)).mono ?_
      rintro e w2 ⟨A', cap', rfl, hown, hb2⟩
      have hown2 := hown.mono (base' := w.heap.size + 2) (by omega)
      have hz2 : w.heap.size + 1 < w2.heap.size := by have := hb2.size; omega
      have bb1 := b1.below hb2 hz
      have hbw2 := hb.trans (hb2.mono (by omega))
      clear hown hb2 m0 m1 m2 n0 n1 n2 r0 r1 r2 q0 q1 q2 b0 b1
      go_wp2
      go_loopw [10, 55] (fun _ i wr => MoveRel w wr w2.heap.size (.bool true) (.int .i64 (to + by_)) A' cap' by_ caps i) (fun _ i _ => caps.length - (intOf i).toNat)
      case atStart => exact ⟨0, rfl, by omega, by simpa using hown2.alloc _, hbw2.alloc (by omega) _, by simp, bb1.alloc _, Blk.new_ _ _ _⟩
      case round =>
        clear hb hz hkn bb1 hown2 hbw2
        obtain ⟨k, rfl, hk, hown, hb, hG, b1, bG⟩ := hrel
        obtain ⟨⟨m0, m1, m2⟩, n0, n1, n2⟩ := bG.three
        obtain ⟨⟨r0, r1, r2⟩, q0, q1, q2⟩ := b1.three
        by_cases hkn : k < caps.length
        · obtain ⟨ga, oa, rfl, hga, hga2⟩ := hown.form (by omega)
          have hne := hown.ne_ bG (by decide)
          have hx := (hm.caps caps[k] (List.getElem_mem hkn))
          have hlx := (leastOf_le to caps).2 caps[k] (List.getElem_mem hkn)
          obtain ⟨x, hxe⟩ : ∃ x, caps[k] = x := ⟨_, rfl⟩
          rw [hxe] at hx hlx
          obtain ⟨x0, x1, x2, _⟩ := hx
          dsimp only at x2
          have hc1 : wr.cell? ⟨ga, oa + k * 3 + 1, none⟩ = some (.int .i64 x.fr) := by
            have h := hown.cell (j := k * 3 + 1) (by omega)
            rw [mv_cell caps by_ k hkn 1 (by omega), hxe] at h
            rw [show oa + k * 3 + 1 = oa + (k * 3 + 1) from by omega, h]; rfl
          have hc2 : wr.cell? ⟨ga, oa + k * 3 + 2, none⟩ = some (.int .i64 x.to) := by
            have h := hown.cell (j := k * 3 + 2) (by omega)
            rw [mv_cell caps by_ k hkn 2 (by omega), hxe] at h
            rw [show oa + k * 3 + 2 = oa + (k * 3 + 2) from by omega, h]; rfl
          have hf1 := hown.free (oa + k * 3 + 1)
          have hf2 := hown.free (oa + k * 3 + 2)
          have HX := Lib.hid hxe
          clear hxe
          go_wp2
          go_roundw
          case rel =>
            have hg2 : w.heap.size + 1 ≠ ga := by omega
            refine ⟨k + 1, by go_num, by omega, ?_, (hb.setCell (p := ⟨ga, oa + k * 3 + 1, none⟩) (by simp; omega) _).setCell (p := ⟨ga, oa + k * 3 + 2, none⟩) (by simp; omega) _, by simpa [World.setCell] using hG,
              (b1.far (p := ⟨ga, oa + k * 3 + 1, none⟩) hg2 _).far (p := ⟨ga, oa + k * 3 + 2, none⟩) hg2 _, (bG.far (p := ⟨ga, oa + k * 3 + 1, none⟩) (Ne.symm hne) _).far (p := ⟨ga, oa + k * 3 + 2, none⟩) (Ne.symm hne) _⟩
            have h := (hown.set_ (j := k * 3 + 1) (by omega) (.int .i64 (caps[k].fr + by_))).set_ (j := k * 3 + 2) (by omega) (.int .i64 (caps[k].to + by_))
            rw [mv_set caps by_ k hkn, HX.out, ← Nat.add_assoc, ← Nat.add_assoc] at h
            exact h
          case measure => simp [intOf]; omega
        · obtain rfl : k = caps.length := by omega
          rw [List.take_length, List.drop_length, List.append_nil] at hown
          have hlt := hown.lt
          have HO := Lib.hid hown
          clear hown
          go_wp2
          refine bodyPost_ret (v := .tuple #[.agg #[.bool true, .int .i64 (to + by_), .slice A' caps.length cap'], .bool true]) (by simp [results, Tryd.results10, go_sem, r0, r1, r2]) rfl ⟨A', cap', ?_, ?_, ?_⟩
          · simp
          · have hne : ∀ o : Nat, blockOf A' ≠ some (w.heap.size + 1) := fun _ e => by have := (hlt _ e).1; omega
            have h := (((HO.out.setCell (p := ⟨w.heap.size + 1, 0, none⟩) (hne 0) (.bool true)).setCell (p := ⟨w.heap.size + 1, 1, none⟩) (hne 0) (.int .i64 (to + by_))).setCell (p := ⟨w.heap.size + 1, 2, none⟩) (hne 0) (.slice A' caps.length cap')).mono (base' := w.heap.size) (by omega)
            simpa using h
          · exact below_st3 hb (by omega) _ _ _
end Go.Proofs.YtnmnbefbadhkgaaDoor
