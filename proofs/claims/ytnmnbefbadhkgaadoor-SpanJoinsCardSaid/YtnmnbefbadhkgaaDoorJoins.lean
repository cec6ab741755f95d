/-
  WALK: the law SpanJoins.
-/
import Derived.Test.YtnmnbefbadhkgaaDoorJoinM
import Derived.Test.YtnmnbefbadhkgaaDoorMovedA
import Derived.IntWalk
import Derived.Deep.DeepCutAuto
namespace Go.Proofs.YtnmnbefbadhkgaaDoor
open Go Go.RowKit

theorem long_three (w : World) (x y z : OutV) (g : Nat) (hx : x.rd w w.heap.size) (hy : y.rd w w.heap.size) (hz : z.rd w w.heap.size) (fx : x.o.fits) (fy : y.o.fits) (fz : z.o.fits) (hg : g = w.heap.size) :
    Calls Tryd.prog 9 #[.slice (some ⟨g, 0, none⟩) 3 3] (w.alloc (.cells (x.cells ++ y.cells ++ z.cells).toArray 24)) fun e w' => ∃ b, e = .returned (.bool b) ∧ (b = false → x.o.caps.length < 900 ∧ y.o.caps.length < 900 ∧ z.o.caps.length < 900) ∧ w' = w.alloc (.cells (x.cells ++ y.cells ++ z.cells).toArray 24) := by
  subst hg
  have h := reads_new w 24 3 3 (x.cells ++ y.cells ++ z.cells) rfl
  refine (long_any _ _ _ 3 [x, y, z] (by simpa [List.flatMap, OutV.cells] using h) (fun u hu => ?_) (by unfold maxLen; simp)).mono ?_
  · simp only [List.mem_cons, List.mem_nil_iff, or_false] at hu
    rcases hu with rfl | rfl | rfl
    · exact ⟨fx, (Reads.alloc hx (Nat.le_refl _) _).more (by omega)⟩
    · exact ⟨fy, (Reads.alloc hy (Nat.le_refl _) _).more (by omega)⟩
    · exact ⟨fz, (Reads.alloc hz (Nat.le_refl _) _).more (by omega)⟩
  · rintro e w' ⟨b, he, hb, hw⟩
    exact ⟨b, he, fun h => ⟨hb h x (by simp), hb h y (by simp), hb h z (by simp)⟩, hw.symm⟩

/-- What holds within the law: the boxes of the three outcomes and of what was joined, and what that reads as. -/
structure LInv (w : World) (x y z j : OutV) (gx : Nat) (w' : World) : Prop where
  a : Blk w' w.heap.size 24 x.cells.toArray
  b : Blk w' (w.heap.size + 1) 24 y.cells.toArray
  c : Blk w' (w.heap.size + 1 + 1) 24 z.cells.toArray
  x : Blk w' gx 24 j.cells.toArray
  rd : j.rd w' gx
  bel : Below w.heap.size w w'
theorem LInv.stays (w : World) (x y z j : OutV) (gx : Nat) : Stays (LInv w x y z j gx) := fun _ _ h hb =>
  ⟨h.a.below hb h.a.lt, h.b.below hb h.b.lt, h.c.below hb h.c.lt, h.x.below hb h.x.lt, Reads.below h.rd (hb.mono (Nat.le_of_lt h.x.lt)), h.bel.trans (hb.mono h.bel.size)⟩
theorem LInv.cells {w : World} {x y z j : OutV} {gx : Nat} {w' : World} (h : LInv w x y z j gx w') :
    (w'.cell? ⟨w.heap.size, 0, none⟩ = some (.bool x.o.ok) ∧ w'.cell? ⟨w.heap.size, 1, none⟩ = some (.int .i64 x.o.to) ∧ w'.cell? ⟨w.heap.size, 2, none⟩ = some (.slice x.A x.o.caps.length x.c)) ∧
    (w'.cell? ⟨w.heap.size + 1, 0, none⟩ = some (.bool y.o.ok) ∧ w'.cell? ⟨w.heap.size + 1, 1, none⟩ = some (.int .i64 y.o.to) ∧ w'.cell? ⟨w.heap.size + 1, 2, none⟩ = some (.slice y.A y.o.caps.length y.c)) ∧
    (w'.cell? ⟨w.heap.size + 1 + 1, 0, none⟩ = some (.bool z.o.ok) ∧ w'.cell? ⟨w.heap.size + 1 + 1, 1, none⟩ = some (.int .i64 z.o.to) ∧ w'.cell? ⟨w.heap.size + 1 + 1, 2, none⟩ = some (.slice z.A z.o.caps.length z.c)) ∧
    (w'.cell? ⟨gx, 0, none⟩ = some (.bool j.o.ok) ∧ w'.cell? ⟨gx, 1, none⟩ = some (.int .i64 j.o.to) ∧ w'.cell? ⟨gx, 2, none⟩ = some (.slice j.A j.o.caps.length j.c)) :=
  ⟨⟨h.a.cell 0, h.a.cell 1, h.a.cell 2⟩, ⟨h.b.cell 0, h.b.cell 1, h.b.cell 2⟩, ⟨h.c.cell 0, h.c.cell 1, h.c.cell 2⟩, ⟨h.x.cell 0, h.x.cell 1, h.x.cell 2⟩⟩
theorem LInv.drew {w : World} {x y z j : OutV} {gx : Nat} {w' : World} (h : LInv w x y z j gx w') : LInv w x y z j gx w'.drew := LInv.stays w x y z j gx _ _ h (Below.refl _ _).drew

/-- A call that yields one value. -/
def constSpec (v0 : Value) : FreeSpec := ⟨fun v => v = v0, fun _ _ => True, fun _ => none⟩
theorem constSpec_ok (v0 : Value) : (∃ v, (constSpec v0).rho v) ∧ ∀ v, Stays ((constSpec v0).R v) := ⟨⟨v0, rfl⟩, fun _ _ _ _ _ => trivial⟩
theorem constSpec_call {P : Program} {f : FuncId} {args : Array Value} {w : World} {v0 : Value} (h : Calls P f args w fun e w' => e = .returned v0 ∧ Below w.heap.size w w') : Calls P f args w fun e w' => ∃ v, e = .returned v ∧ (constSpec v0).post w v w' :=
  h.mono fun e w' ⟨he, hb⟩ => ⟨v0, he, rfl, trivial, (fun g hg => by cases hg), hb⟩
/-- A call that yields an outcome. -/
def outSpec (o : Out) : FreeSpec where
  rho v := ∃ A cap, v = .agg #[.bool o.ok, .int .i64 o.to, .slice A o.caps.length cap]
  R v w' := ∃ A cap, v = .agg #[.bool o.ok, .int .i64 o.to, .slice A o.caps.length cap] ∧ Reads w' w'.heap.size 3 A o.caps.length (capCells o.caps)
  born _ := none
theorem outSpec_ok (o : Out) : (∃ v, (outSpec o).rho v) ∧ ∀ v, Stays ((outSpec o).R v) :=
  ⟨⟨_, none, 0, rfl⟩, fun v _ _ ⟨A, cap, e, h⟩ hb => ⟨A, cap, e, (h.below hb).more hb.size⟩⟩
theorem outSpec_call {P : Program} {f : FuncId} {args : Array Value} {w : World} {o : Out} (h : Calls P f args w (OutSays w o)) : Calls P f args w fun e w' => ∃ v, e = .returned v ∧ (outSpec o).post w v w' :=
  h.mono fun e w' ⟨A, cap, he, ho, hb⟩ => ⟨_, he, ⟨A, cap, rfl⟩, ⟨A, cap, rfl, ho.rd⟩, (fun g hg => by cases hg), hb⟩

/-- What holds within the law's last statements. -/
structure PInv (w : World) (x yv : OutV) (gy : Nat) (w' : World) : Prop where
  a : Blk w' w.heap.size 24 x.cells.toArray
  y : Blk w' gy 24 yv.cells.toArray
  rd : yv.rd w' gy
  bel : Below w.heap.size w w'
theorem PInv.stays (w : World) (x yv : OutV) (gy : Nat) : Stays (PInv w x yv gy) := fun _ _ h hb =>
  ⟨h.a.below hb h.a.lt, h.y.below hb h.y.lt, Reads.below h.rd (hb.mono (Nat.le_of_lt h.y.lt)), h.bel.trans (hb.mono h.bel.size)⟩
theorem PInv.drew {w : World} {x yv : OutV} {gy : Nat} {w' : World} (h : PInv w x yv gy w') : PInv w x yv gy w'.drew := PInv.stays w x yv gy _ _ h (Below.refl _ _).drew
theorem PInv.cells {w : World} {x yv : OutV} {gy : Nat} {w' : World} (h : PInv w x yv gy w') :
    (w'.cell? ⟨w.heap.size, 0, none⟩ = some (.bool x.o.ok) ∧ w'.cell? ⟨w.heap.size, 1, none⟩ = some (.int .i64 x.o.to) ∧ w'.cell? ⟨w.heap.size, 2, none⟩ = some (.slice x.A x.o.caps.length x.c)) ∧
    (w'.cell? ⟨gy, 0, none⟩ = some (.bool yv.o.ok) ∧ w'.cell? ⟨gy, 1, none⟩ = some (.int .i64 yv.o.to) ∧ w'.cell? ⟨gy, 2, none⟩ = some (.slice yv.A yv.o.caps.length yv.c)) :=
  ⟨⟨h.a.cell 0, h.a.cell 1, h.a.cell 2⟩, ⟨h.y.cell 0, h.y.cell 1, h.y.cell 2⟩⟩
theorem PInv.cap0 {w : World} {x : OutV} {ok : Bool} {tt : Int} {c0 : Cap} {l : List Cap} {g off c : Nat} {gy : Nat} {w' : World} (h : PInv w x ⟨⟨ok, tt, c0 :: l⟩, some ⟨g, off, none⟩, c⟩ gy w') :
    w'.cell? ⟨g, off, none⟩ = some (.string c0.name) ∧ w'.cell? ⟨g, off + 1, none⟩ = some (.int .i64 c0.fr) ∧ w'.cell? ⟨g, off + 2, none⟩ = some (.int .i64 c0.to) := by
  obtain ⟨g', off', e, _, d0, d1, d2⟩ := Reads.cap (show Reads w' gy 3 (some ⟨g, off, none⟩) (c0 :: l).length (capCells (c0 :: l)) from h.rd) (k := 0) (by simp)
  cases e
  simpa using And.intro d0 (And.intro d1 d2)
theorem joinO_fits (a b : Out) (ha : a.fits) (hb : b.fits) (hl : a.caps.length + b.caps.length ≤ maxLen) : (joinO a b).fits := by
  unfold joinO
  split
  · exact ⟨hb.1, by simpa using hl, fun c hc => by
      simp only [List.mem_append] at hc
      rcases hc with hc | hc
      · exact ha.2.2 c hc
      · exact hb.2.2 c hc⟩
  · exact ⟨by unfold isI64; simp, by simp [maxLen], fun c hc => by simp at hc⟩
set_option maxRecDepth 100000 in
set_option maxHeartbeats 8000000 in
theorem joins_any (w : World) (x y z : OutV) (s : ByteArray) (fr : Int) (hx : x.rd w w.heap.size) (hy : y.rd w w.heap.size) (hz : z.rd w w.heap.size) (fx : x.o.fits) (fy : y.o.fits) (fz : z.o.fits) (hs : s.size ≤ maxLen) (hfr : isI64 fr) (ht : Tab w) :
    Calls Tryd.prog 5 #[x.val, y.val, z.val, .string s, .int .i64 fr] w fun e w' => e = .returned (.bool true) ∧ Below w.heap.size w w' := by
  have htl := ht.lt
  unfold maxLen at hs
  obtain ⟨⟨ok1, t1, l1⟩, A1, c1⟩ := x
  obtain ⟨⟨ok2, t2, l2⟩, A2, c2⟩ := y
  obtain ⟨⟨ok3, t3, l3⟩, A3, c3⟩ := z
  simp only [OutV.rd, OutV.val] at *
  have hbl0 := Below.alloc3 w (.cells #[.bool ok1, .int .i64 t1, .slice A1 l1.length c1] 24) (.cells #[.bool ok2, .int .i64 t2, .slice A2 l2.length c2] 24) (.cells #[.bool ok3, .int .i64 t3, .slice A3 l3.length c3] 24)
  have hI0 := JInv.start w (.bool ok1) (.int .i64 t1) (.slice A1 l1.length c1) (.bool ok2) (.int .i64 t2) (.slice A2 l2.length c2) (.bool ok3) (.int .i64 t3) (.slice A3 l3.length c3)
  go_enter Tryd.func5, Tryd.ntmps5
  go_wp2_with fail
  refine (works_any _ (ht.below hbl0 htl)).mono ?_
  rintro e w1 ⟨rfl, hb1⟩
  have hI1 := hI0.below hb1
  have hbw1 := hI1.bel
  have hz1 := hI1.z
  obtain ⟨a0, a1, a2⟩ := hI1.a.three.1
  obtain ⟨b0, b1, b2⟩ := hI1.b.three.1
  obtain ⟨d0, d1, d2⟩ := hI1.r.three.1
  clear hb1 hbl0 hI0
  go_wp2_with fail
  refine (long_three w1 ⟨⟨ok1, t1, l1⟩, A1, c1⟩ ⟨⟨ok2, t2, l2⟩, A2, c2⟩ ⟨⟨ok3, t3, l3⟩, A3, c3⟩ w1.heap.size (Reads.more (hx.below hbw1) (by omega)) (Reads.more (hy.below hbw1) (by omega)) (Reads.more (hz.below hbw1) (by omega)) fx fy fz rfl).mono ?_
  rintro e w2 ⟨b, rfl, hlong, rfl⟩
  have hb2 : Below w1.heap.size w1 (w1.alloc (.cells (OutV.cells ⟨⟨ok1, t1, l1⟩, A1, c1⟩ ++ OutV.cells ⟨⟨ok2, t2, l2⟩, A2, c2⟩ ++ OutV.cells ⟨⟨ok3, t3, l3⟩, A3, c3⟩).toArray 24)) := (Below.refl _ _).alloc (Nat.le_refl _) _
  obtain ⟨w2, hw2⟩ : ∃ w2, w2 = w1.alloc (.cells (OutV.cells ⟨⟨ok1, t1, l1⟩, A1, c1⟩ ++ OutV.cells ⟨⟨ok2, t2, l2⟩, A2, c2⟩ ++ OutV.cells ⟨⟨ok3, t3, l3⟩, A3, c3⟩).toArray 24) := ⟨_, rfl⟩
  rw [← hw2] at hb2 ⊢
  clear hw2
  have hI2 := hI1.below hb2
  have hbw2 := hI2.bel
  have ht2 := ht.below hbw2 htl
  clear a0 a1 a2 b0 b1 b2 d0 d1 d2
  obtain ⟨a0, a1, a2⟩ := hI2.a.three.1
  obtain ⟨b0, b1, b2⟩ := hI2.b.three.1
  obtain ⟨d0, d1, d2⟩ := hI2.r.three.1
  have hz2 := hI2.z
  clear hb2 hI1 hbw1
  cases b with
  | true =>
    go_wp2_with fail
    refine (works_any _ ht2).mono ?_
    rintro e w3 ⟨rfl, hb3⟩
    go_wp2
    go_ret
    exact ⟨rfl, hbw2.trans (hb3.mono hbw2.size)⟩
  | false =>
    obtain ⟨n1, n2, n3⟩ := hlong rfl
    dsimp only at n1 n2 n3
    by_cases hsl : (3000 : Int) < (s.size : Int)
    · go_wp2_with fail
      refine (works_any _ ht2).mono ?_
      rintro e w3 ⟨rfl, hb3⟩
      go_wp2
      go_ret
      exact ⟨rfl, hbw2.trans (hb3.mono hbw2.size)⟩
    · have hx2 := Reads.more (hx.below hbw2) (B' := w2.heap.size) (by omega)
      have hy2 := Reads.more (hy.below hbw2) (B' := w2.heap.size) (by omega)
      go_wp2_with fail
      refine (join_any w2 ⟨⟨ok1, t1, l1⟩, A1, c1⟩ ⟨⟨ok2, t2, l2⟩, A2, c2⟩ hx2 hy2 (by dsimp only; omega)).mono ?_
      rintro e w3 ⟨Aj, cj, rfl, hown, hb3⟩
      have hI3 := hI2.below hb3
      have hL : LInv w ⟨⟨ok1, t1, l1⟩, A1, c1⟩ ⟨⟨ok2, t2, l2⟩, A2, c2⟩ ⟨⟨ok3, t3, l3⟩, A3, c3⟩ ⟨joinO ⟨ok1, t1, l1⟩ ⟨ok2, t2, l2⟩, Aj, cj⟩ w3.heap.size (w3.alloc (.cells (OutV.cells ⟨joinO ⟨ok1, t1, l1⟩ ⟨ok2, t2, l2⟩, Aj, cj⟩).toArray 24)) :=
        ⟨hI3.a.alloc _, hI3.b.alloc _, hI3.r.alloc _, Blk.new_ _ _ _, (hown.rd).alloc (Nat.le_refl _) _, hI3.bel.alloc (by have := hI3.z; omega) _⟩
      have hgx : w.heap.size + 3 ≤ w3.heap.size := hI3.z
      clear hI2 hx2 hy2 hown hb3 a0 a1 a2 b0 b1 b2 d0 d1 d2 hbw2 hI3 ht2 hlong hz1 hz2
      obtain ⟨⟨okj, tj, lj⟩, hj⟩ : ∃ j, joinO ⟨ok1, t1, l1⟩ ⟨ok2, t2, l2⟩ = j := ⟨_, rfl⟩
      have hnj : lj.length ≤ l1.length + l2.length := by
        have : lj = (joinO ⟨ok1, t1, l1⟩ ⟨ok2, t2, l2⟩).caps := by rw [hj]
        rw [this]
        unfold joinO
        split <;> simp
      obtain ⟨o6, h6⟩ : ∃ o, joinO ⟨ok2, t2, l2⟩ ⟨ok3, t3, l3⟩ = o := ⟨_, rfl⟩
      obtain ⟨o7, h7⟩ : ∃ o, joinO ⟨ok1, t1, l1⟩ o6 = o := ⟨_, rfl⟩
      have h2 : joinO ⟨okj, tj, lj⟩ ⟨ok3, t3, l3⟩ = o7 := by rw [← hj, join_assoc, h6, h7]
      have hn6 : o6.caps.length ≤ l2.length + l3.length := by
        rw [← h6]
        unfold joinO
        split <;> simp
      have hn7 : o7.caps.length ≤ l1.length + o6.caps.length := by
        rw [← h7]
        unfold joinO
        split <;> simp
      rw [hj] at hL ⊢
      have hC2 : ∀ w4, LInv w ⟨⟨ok1, t1, l1⟩, A1, c1⟩ ⟨⟨ok2, t2, l2⟩, A2, c2⟩ ⟨⟨ok3, t3, l3⟩, A3, c3⟩ ⟨⟨okj, tj, lj⟩, Aj, cj⟩ w3.heap.size w4 → Calls Tryd.prog 19 #[.agg #[.bool okj, .int .i64 tj, .slice Aj lj.length cj], .agg #[.bool ok3, .int .i64 t3, .slice A3 l3.length c3]] w4 (OutSays w4 o7) := fun w4 hC => by
        have hcall := join_any w4 ⟨⟨okj, tj, lj⟩, Aj, cj⟩ ⟨⟨ok3, t3, l3⟩, A3, c3⟩ (Reads.more hC.rd (Nat.le_of_lt hC.x.lt)) (Reads.more (hz.below hC.bel) hC.bel.size) (by dsimp only; omega)
        rw [h2] at hcall
        exact hcall
      have hC6 : ∀ w4, LInv w ⟨⟨ok1, t1, l1⟩, A1, c1⟩ ⟨⟨ok2, t2, l2⟩, A2, c2⟩ ⟨⟨ok3, t3, l3⟩, A3, c3⟩ ⟨⟨okj, tj, lj⟩, Aj, cj⟩ w3.heap.size w4 → Calls Tryd.prog 19 #[.agg #[.bool ok2, .int .i64 t2, .slice A2 l2.length c2], .agg #[.bool ok3, .int .i64 t3, .slice A3 l3.length c3]] w4 (OutSays w4 o6) := fun w4 hC => by
        have hcall := join_any w4 ⟨⟨ok2, t2, l2⟩, A2, c2⟩ ⟨⟨ok3, t3, l3⟩, A3, c3⟩ (Reads.more (hy.below hC.bel) hC.bel.size) (Reads.more (hz.below hC.bel) hC.bel.size) (by dsimp only; omega)
        rw [h6] at hcall
        exact hcall
      have hC7 : ∀ w4 A c, LInv w ⟨⟨ok1, t1, l1⟩, A1, c1⟩ ⟨⟨ok2, t2, l2⟩, A2, c2⟩ ⟨⟨ok3, t3, l3⟩, A3, c3⟩ ⟨⟨okj, tj, lj⟩, Aj, cj⟩ w3.heap.size w4 → Reads w4 w4.heap.size 3 A o6.caps.length (capCells o6.caps) → Calls Tryd.prog 19 #[.agg #[.bool ok1, .int .i64 t1, .slice A1 l1.length c1], .agg #[.bool o6.ok, .int .i64 o6.to, .slice A o6.caps.length c]] w4 (OutSays w4 o7) := fun w4 A c hC hr => by
        have hcall := join_any w4 ⟨⟨ok1, t1, l1⟩, A1, c1⟩ ⟨o6, A, c⟩ (Reads.more (hx.below hC.bel) hC.bel.size) hr (by dsimp only; omega)
        rw [h7] at hcall
        exact hcall
      have hC8 : ∀ w4 A c A' c', Reads w4 w4.heap.size 3 A o7.caps.length (capCells o7.caps) → Reads w4 w4.heap.size 3 A' o7.caps.length (capCells o7.caps) → Calls Tryd.prog 11 #[.agg #[.bool o7.ok, .int .i64 o7.to, .slice A o7.caps.length c], .agg #[.bool o7.ok, .int .i64 o7.to, .slice A' o7.caps.length c']] w4 (fun e w' => e = .returned (.bool true) ∧ Below w4.heap.size w4 w') := fun w4 A c A' c' hr hr' => by
        have hm : o7.caps.length ≤ maxLen := by unfold maxLen; omega
        refine (same_any w4 ⟨o7, A, c⟩ ⟨o7, A', c'⟩ hr hr' hm hm).mono fun e w' ⟨he, hb⟩ => ⟨he.trans ?_, hb⟩
        rw [(sameB_iff o7 o7).2 rfl]
      have HJ := Lib.hid hj
      clear hj h2 h6 h7
      go_upto_region 4 with fail
      go_cut [76] from 32 to 76 (fun c wx => c = .bool false ∧ LInv w ⟨⟨ok1, t1, l1⟩, A1, c1⟩ ⟨⟨ok2, t2, l2⟩, A2, c2⟩ ⟨⟨ok3, t3, l3⟩, A3, c3⟩ ⟨⟨okj, tj, lj⟩, Aj, cj⟩ w3.heap.size wx)
      case first =>
        have hj2 := HJ.out
        have HL : Hid (ok1 = true → ok2 = true → lj = l1 ++ l2) := Lib.hid (fun h1 h2 => by rw [h1, h2] at hj2; simp [joinO] at hj2; exact hj2.2.2.symm)
        have htj : ok1 = true → ok2 = true → tj = t2 := fun h1 h2 => by rw [h1, h2] at hj2; simp [joinO] at hj2; exact hj2.2.1.symm
        have hoj : okj = (ok1 && ok2) := by cases ok1 <;> cases ok2 <;> simp [joinO] at hj2 <;> simp [← hj2.1]
        clear hj2 HJ
        cases ok1 <;> cases ok2 <;> simp only [Bool.and_self, Bool.and_false, Bool.false_and] at hoj <;> subst hoj
        · refine region_free (LInv w _ _ _ _ w3.heap.size) (fun | 2 => some (outSpec o7) | 6 => some (outSpec o6) | 7 => some (outSpec o7) | 8 => some (constSpec (.bool true)) | _ => none) (by kernel_rfl) (by decide +kernel) (by decide +kernel) (by decide +kernel) (fun k s hs => ?_) (LInv.stays _ _ _ _ _ _) hL.drew ?_
          · split at hs <;> cases hs
            · exact outSpec_ok o7
            · exact outSpec_ok o6
            · exact outSpec_ok o7
            · exact constSpec_ok _
          simp only [idx, Nat.reduceAdd]
          iterate 2
            refine w_pure (by kernel_rfl) rfl ?_
            apply Exists.intro
            refine And.intro (fun w4 hC hF => ?_) ?_
            (focus (have hcl := hC.cells; dsimp only at hcl; obtain ⟨⟨a0, a1, a2⟩, ⟨b0, b1, b2⟩, ⟨d0, d1, d2⟩, ⟨x0, x1, x2⟩⟩ := hcl; clear hC hF; unfold gives; go_simp; try with_reducible rfl))
            simp only [Act.put, List.setIfInBounds_toArray, List.set_cons_zero, List.set_cons_succ]
          refine w_free (by kernel_rfl) rfl (fun w4 hC hF hG => ?_) ?_
          · unfold does
            go_simp
            exact outSpec_call (hC2 w4 hC)
          rintro v ⟨A4, c4, rfl⟩
          simp only [Act.put, List.setIfInBounds_toArray, List.set_cons_zero, List.set_cons_succ]
          iterate 3
            refine w_pure (by kernel_rfl) rfl ?_
            apply Exists.intro
            refine And.intro (fun w4 hC hF => ?_) ?_
            (focus (have hcl := hC.cells; dsimp only at hcl; obtain ⟨⟨a0, a1, a2⟩, ⟨b0, b1, b2⟩, ⟨d0, d1, d2⟩, ⟨x0, x1, x2⟩⟩ := hcl; clear hC hF; unfold gives; go_simp; try with_reducible rfl))
            simp only [Act.put, List.setIfInBounds_toArray, List.set_cons_zero, List.set_cons_succ]
          refine w_free (by kernel_rfl) rfl (fun w4 hC hF hG => ?_) ?_
          · unfold does
            go_simp
            exact outSpec_call (hC6 w4 hC)
          rintro v ⟨A5, c5, rfl⟩
          simp only [Act.put, List.setIfInBounds_toArray, List.set_cons_zero, List.set_cons_succ]
          refine w_free (by kernel_rfl) rfl (fun w4 hC hF hG => ?_) ?_
          · unfold does
            go_simp
            have h5 : (outSpec o6).R (.agg #[.bool o6.ok, .int .i64 o6.to, .slice A5 o6.caps.length c5]) w4 := hF 6 (by decide +kernel)
            obtain ⟨_, _, e, hr5⟩ := h5
            cases e
            exact outSpec_call (hC7 w4 _ _ hC hr5)
          rintro v ⟨A6, c6, rfl⟩
          simp only [Act.put, List.setIfInBounds_toArray, List.set_cons_zero, List.set_cons_succ]
          refine w_free (by kernel_rfl) rfl (fun w4 hC hF hG => ?_) ?_
          · unfold does
            go_simp
            have h4 : (outSpec o7).R (.agg #[.bool o7.ok, .int .i64 o7.to, .slice A4 o7.caps.length c4]) w4 := hF 2 (by decide +kernel)
            have h6 : (outSpec o7).R (.agg #[.bool o7.ok, .int .i64 o7.to, .slice A6 o7.caps.length c6]) w4 := hF 7 (by decide +kernel)
            obtain ⟨_, _, e, hr4⟩ := h4
            cases e
            obtain ⟨_, _, e, hr6⟩ := h6
            cases e
            exact constSpec_call (hC8 w4 _ _ _ _ hr4 hr6)
          intro v hv
          obtain rfl : v = .bool true := hv
          simp only [Act.put, List.setIfInBounds_toArray, List.set_cons_zero, List.set_cons_succ]
          iterate 7
            refine w_pure (by kernel_rfl) rfl ?_
            apply Exists.intro
            refine And.intro (fun w4 hC hF => ?_) ?_
            (focus (have hcl := hC.cells; dsimp only at hcl; obtain ⟨⟨a0, a1, a2⟩, ⟨b0, b1, b2⟩, ⟨d0, d1, d2⟩, ⟨x0, x1, x2⟩⟩ := hcl; clear hC hF; unfold gives; go_simp; try with_reducible rfl))
            simp only [Act.put, List.setIfInBounds_toArray, List.set_cons_zero, List.set_cons_succ]
          iterate 2
            refine w_skip (by kernel_rfl) ?_
            simp only [Act.put, List.setIfInBounds_toArray, List.set_cons_zero, List.set_cons_succ]
          iterate 7
            refine w_pure (by kernel_rfl) rfl ?_
            apply Exists.intro
            refine And.intro (fun w4 hC hF => ?_) ?_
            (focus (have hcl := hC.cells; dsimp only at hcl; obtain ⟨⟨a0, a1, a2⟩, ⟨b0, b1, b2⟩, ⟨d0, d1, d2⟩, ⟨x0, x1, x2⟩⟩ := hcl; clear hC hF; unfold gives; go_simp; try with_reducible rfl))
            simp only [Act.put, List.setIfInBounds_toArray, List.set_cons_zero, List.set_cons_succ]
          iterate 18
            refine w_skip (by kernel_rfl) ?_
            simp only [Act.put, List.setIfInBounds_toArray, List.set_cons_zero, List.set_cons_succ]
          iterate 2
            refine w_pure (by kernel_rfl) rfl ?_
            apply Exists.intro
            refine And.intro (fun w4 hC hF => ?_) ?_
            (focus (have hcl := hC.cells; dsimp only at hcl; obtain ⟨⟨a0, a1, a2⟩, ⟨b0, b1, b2⟩, ⟨d0, d1, d2⟩, ⟨x0, x1, x2⟩⟩ := hcl; clear hC hF; unfold gives; go_simp; try with_reducible rfl))
            simp only [Act.put, List.setIfInBounds_toArray, List.set_cons_zero, List.set_cons_succ]
          refine w_end (fun w4 hC hF hG => ?_)
          go_wp2
          go_meet
          case rel => exact ⟨by simp, hC⟩
        · refine region_free (LInv w _ _ _ _ w3.heap.size) (fun | 2 => some (outSpec o7) | 6 => some (outSpec o6) | 7 => some (outSpec o7) | 8 => some (constSpec (.bool true)) | _ => none) (by kernel_rfl) (by decide +kernel) (by decide +kernel) (by decide +kernel) (fun k s hs => ?_) (LInv.stays _ _ _ _ _ _) hL.drew ?_
          · split at hs <;> cases hs
            · exact outSpec_ok o7
            · exact outSpec_ok o6
            · exact outSpec_ok o7
            · exact constSpec_ok _
          simp only [idx, Nat.reduceAdd]
          iterate 2
            refine w_pure (by kernel_rfl) rfl ?_
            apply Exists.intro
            refine And.intro (fun w4 hC hF => ?_) ?_
            (focus (have hcl := hC.cells; dsimp only at hcl; obtain ⟨⟨a0, a1, a2⟩, ⟨b0, b1, b2⟩, ⟨d0, d1, d2⟩, ⟨x0, x1, x2⟩⟩ := hcl; clear hC hF; unfold gives; go_simp; try with_reducible rfl))
            simp only [Act.put, List.setIfInBounds_toArray, List.set_cons_zero, List.set_cons_succ]
          refine w_free (by kernel_rfl) rfl (fun w4 hC hF hG => ?_) ?_
          · unfold does
            go_simp
            exact outSpec_call (hC2 w4 hC)
          rintro v ⟨A4, c4, rfl⟩
          simp only [Act.put, List.setIfInBounds_toArray, List.set_cons_zero, List.set_cons_succ]
          iterate 3
            refine w_pure (by kernel_rfl) rfl ?_
            apply Exists.intro
            refine And.intro (fun w4 hC hF => ?_) ?_
            (focus (have hcl := hC.cells; dsimp only at hcl; obtain ⟨⟨a0, a1, a2⟩, ⟨b0, b1, b2⟩, ⟨d0, d1, d2⟩, ⟨x0, x1, x2⟩⟩ := hcl; clear hC hF; unfold gives; go_simp; try with_reducible rfl))
            simp only [Act.put, List.setIfInBounds_toArray, List.set_cons_zero, List.set_cons_succ]
          refine w_free (by kernel_rfl) rfl (fun w4 hC hF hG => ?_) ?_
          · unfold does
            go_simp
            exact outSpec_call (hC6 w4 hC)
          rintro v ⟨A5, c5, rfl⟩
          simp only [Act.put, List.setIfInBounds_toArray, List.set_cons_zero, List.set_cons_succ]
          refine w_free (by kernel_rfl) rfl (fun w4 hC hF hG => ?_) ?_
          · unfold does
            go_simp
            have h5 : (outSpec o6).R (.agg #[.bool o6.ok, .int .i64 o6.to, .slice A5 o6.caps.length c5]) w4 := hF 6 (by decide +kernel)
            obtain ⟨_, _, e, hr5⟩ := h5
            cases e
            exact outSpec_call (hC7 w4 _ _ hC hr5)
          rintro v ⟨A6, c6, rfl⟩
          simp only [Act.put, List.setIfInBounds_toArray, List.set_cons_zero, List.set_cons_succ]
          refine w_free (by kernel_rfl) rfl (fun w4 hC hF hG => ?_) ?_
          · unfold does
            go_simp
            have h4 : (outSpec o7).R (.agg #[.bool o7.ok, .int .i64 o7.to, .slice A4 o7.caps.length c4]) w4 := hF 2 (by decide +kernel)
            have h6 : (outSpec o7).R (.agg #[.bool o7.ok, .int .i64 o7.to, .slice A6 o7.caps.length c6]) w4 := hF 7 (by decide +kernel)
            obtain ⟨_, _, e, hr4⟩ := h4
            cases e
            obtain ⟨_, _, e, hr6⟩ := h6
            cases e
            exact constSpec_call (hC8 w4 _ _ _ _ hr4 hr6)
          intro v hv
          obtain rfl : v = .bool true := hv
          simp only [Act.put, List.setIfInBounds_toArray, List.set_cons_zero, List.set_cons_succ]
          iterate 7
            refine w_pure (by kernel_rfl) rfl ?_
            apply Exists.intro
            refine And.intro (fun w4 hC hF => ?_) ?_
            (focus (have hcl := hC.cells; dsimp only at hcl; obtain ⟨⟨a0, a1, a2⟩, ⟨b0, b1, b2⟩, ⟨d0, d1, d2⟩, ⟨x0, x1, x2⟩⟩ := hcl; clear hC hF; unfold gives; go_simp; try with_reducible rfl))
            simp only [Act.put, List.setIfInBounds_toArray, List.set_cons_zero, List.set_cons_succ]
          iterate 2
            refine w_skip (by kernel_rfl) ?_
            simp only [Act.put, List.setIfInBounds_toArray, List.set_cons_zero, List.set_cons_succ]
          iterate 7
            refine w_pure (by kernel_rfl) rfl ?_
            apply Exists.intro
            refine And.intro (fun w4 hC hF => ?_) ?_
            (focus (have hcl := hC.cells; dsimp only at hcl; obtain ⟨⟨a0, a1, a2⟩, ⟨b0, b1, b2⟩, ⟨d0, d1, d2⟩, ⟨x0, x1, x2⟩⟩ := hcl; clear hC hF; unfold gives; go_simp; try with_reducible rfl))
            simp only [Act.put, List.setIfInBounds_toArray, List.set_cons_zero, List.set_cons_succ]
          iterate 18
            refine w_skip (by kernel_rfl) ?_
            simp only [Act.put, List.setIfInBounds_toArray, List.set_cons_zero, List.set_cons_succ]
          iterate 2
            refine w_pure (by kernel_rfl) rfl ?_
            apply Exists.intro
            refine And.intro (fun w4 hC hF => ?_) ?_
            (focus (have hcl := hC.cells; dsimp only at hcl; obtain ⟨⟨a0, a1, a2⟩, ⟨b0, b1, b2⟩, ⟨d0, d1, d2⟩, ⟨x0, x1, x2⟩⟩ := hcl; clear hC hF; unfold gives; go_simp; try with_reducible rfl))
            simp only [Act.put, List.setIfInBounds_toArray, List.set_cons_zero, List.set_cons_succ]
          refine w_end (fun w4 hC hF hG => ?_)
          go_wp2
          go_meet
          case rel => exact ⟨by simp, hC⟩
        · refine region_free (LInv w _ _ _ _ w3.heap.size) (fun | 2 => some (outSpec o7) | 6 => some (outSpec o6) | 7 => some (outSpec o7) | 8 => some (constSpec (.bool true)) | _ => none) (by kernel_rfl) (by decide +kernel) (by decide +kernel) (by decide +kernel) (fun k s hs => ?_) (LInv.stays _ _ _ _ _ _) hL.drew ?_
          · split at hs <;> cases hs
            · exact outSpec_ok o7
            · exact outSpec_ok o6
            · exact outSpec_ok o7
            · exact constSpec_ok _
          simp only [idx, Nat.reduceAdd]
          iterate 2
            refine w_pure (by kernel_rfl) rfl ?_
            apply Exists.intro
            refine And.intro (fun w4 hC hF => ?_) ?_
            (focus (have hcl := hC.cells; dsimp only at hcl; obtain ⟨⟨a0, a1, a2⟩, ⟨b0, b1, b2⟩, ⟨d0, d1, d2⟩, ⟨x0, x1, x2⟩⟩ := hcl; clear hC hF; unfold gives; go_simp; try with_reducible rfl))
            simp only [Act.put, List.setIfInBounds_toArray, List.set_cons_zero, List.set_cons_succ]
          refine w_free (by kernel_rfl) rfl (fun w4 hC hF hG => ?_) ?_
          · unfold does
            go_simp
            exact outSpec_call (hC2 w4 hC)
          rintro v ⟨A4, c4, rfl⟩
          simp only [Act.put, List.setIfInBounds_toArray, List.set_cons_zero, List.set_cons_succ]
          iterate 3
            refine w_pure (by kernel_rfl) rfl ?_
            apply Exists.intro
            refine And.intro (fun w4 hC hF => ?_) ?_
            (focus (have hcl := hC.cells; dsimp only at hcl; obtain ⟨⟨a0, a1, a2⟩, ⟨b0, b1, b2⟩, ⟨d0, d1, d2⟩, ⟨x0, x1, x2⟩⟩ := hcl; clear hC hF; unfold gives; go_simp; try with_reducible rfl))
            simp only [Act.put, List.setIfInBounds_toArray, List.set_cons_zero, List.set_cons_succ]
          refine w_free (by kernel_rfl) rfl (fun w4 hC hF hG => ?_) ?_
          · unfold does
            go_simp
            exact outSpec_call (hC6 w4 hC)
          rintro v ⟨A5, c5, rfl⟩
          simp only [Act.put, List.setIfInBounds_toArray, List.set_cons_zero, List.set_cons_succ]
          refine w_free (by kernel_rfl) rfl (fun w4 hC hF hG => ?_) ?_
          · unfold does
            go_simp
            have h5 : (outSpec o6).R (.agg #[.bool o6.ok, .int .i64 o6.to, .slice A5 o6.caps.length c5]) w4 := hF 6 (by decide +kernel)
            obtain ⟨_, _, e, hr5⟩ := h5
            cases e
            exact outSpec_call (hC7 w4 _ _ hC hr5)
          rintro v ⟨A6, c6, rfl⟩
          simp only [Act.put, List.setIfInBounds_toArray, List.set_cons_zero, List.set_cons_succ]
          refine w_free (by kernel_rfl) rfl (fun w4 hC hF hG => ?_) ?_
          · unfold does
            go_simp
            have h4 : (outSpec o7).R (.agg #[.bool o7.ok, .int .i64 o7.to, .slice A4 o7.caps.length c4]) w4 := hF 2 (by decide +kernel)
            have h6 : (outSpec o7).R (.agg #[.bool o7.ok, .int .i64 o7.to, .slice A6 o7.caps.length c6]) w4 := hF 7 (by decide +kernel)
            obtain ⟨_, _, e, hr4⟩ := h4
            cases e
            obtain ⟨_, _, e, hr6⟩ := h6
            cases e
            exact constSpec_call (hC8 w4 _ _ _ _ hr4 hr6)
          intro v hv
          obtain rfl : v = .bool true := hv
          simp only [Act.put, List.setIfInBounds_toArray, List.set_cons_zero, List.set_cons_succ]
          iterate 16
            refine w_pure (by kernel_rfl) rfl ?_
            apply Exists.intro
            refine And.intro (fun w4 hC hF => ?_) ?_
            (focus (have hcl := hC.cells; dsimp only at hcl; obtain ⟨⟨a0, a1, a2⟩, ⟨b0, b1, b2⟩, ⟨d0, d1, d2⟩, ⟨x0, x1, x2⟩⟩ := hcl; clear hC hF; unfold gives; go_simp; try with_reducible rfl))
            simp only [Act.put, List.setIfInBounds_toArray, List.set_cons_zero, List.set_cons_succ]
          iterate 18
            refine w_skip (by kernel_rfl) ?_
            simp only [Act.put, List.setIfInBounds_toArray, List.set_cons_zero, List.set_cons_succ]
          iterate 2
            refine w_pure (by kernel_rfl) rfl ?_
            apply Exists.intro
            refine And.intro (fun w4 hC hF => ?_) ?_
            (focus (have hcl := hC.cells; dsimp only at hcl; obtain ⟨⟨a0, a1, a2⟩, ⟨b0, b1, b2⟩, ⟨d0, d1, d2⟩, ⟨x0, x1, x2⟩⟩ := hcl; clear hC hF; unfold gives; go_simp; try with_reducible rfl))
            simp only [Act.put, List.setIfInBounds_toArray, List.set_cons_zero, List.set_cons_succ]
          refine w_end (fun w4 hC hF hG => ?_)
          go_wp2
          go_meet
          case rel => exact ⟨by simp, hC⟩
        · obtain rfl := htj rfl rfl
          have hne : ((lj.length : Int) != (l1.length : Int) + (l2.length : Int)) = false := by rw [HL.out rfl rfl]; simp
          have hw12 : IntKind.i64.wrap ((l1.length : Int) + (l2.length : Int)) = (l1.length : Int) + (l2.length : Int) := IntWalk.i64_in _ (by omega)
          refine region_free (LInv w _ _ _ _ w3.heap.size) (fun | 2 => some (outSpec o7) | 6 => some (outSpec o6) | 7 => some (outSpec o7) | 8 => some (constSpec (.bool true)) | _ => none) (by kernel_rfl) (by decide +kernel) (by decide +kernel) (by decide +kernel) (fun k s hs => ?_) (LInv.stays _ _ _ _ _ _) hL.drew ?_
          · split at hs <;> cases hs
            · exact outSpec_ok o7
            · exact outSpec_ok o6
            · exact outSpec_ok o7
            · exact constSpec_ok _
          simp only [idx, Nat.reduceAdd]
          iterate 2
            refine w_pure (by kernel_rfl) rfl ?_
            apply Exists.intro
            refine And.intro (fun w4 hC hF => ?_) ?_
            (focus (have hcl := hC.cells; dsimp only at hcl; obtain ⟨⟨a0, a1, a2⟩, ⟨b0, b1, b2⟩, ⟨d0, d1, d2⟩, ⟨x0, x1, x2⟩⟩ := hcl; clear hC hF; unfold gives; go_simp; try with_reducible rfl))
            simp only [Act.put, List.setIfInBounds_toArray, List.set_cons_zero, List.set_cons_succ]
          refine w_free (by kernel_rfl) rfl (fun w4 hC hF hG => ?_) ?_
          · unfold does
            go_simp
            exact outSpec_call (hC2 w4 hC)
          rintro v ⟨A4, c4, rfl⟩
          simp only [Act.put, List.setIfInBounds_toArray, List.set_cons_zero, List.set_cons_succ]
          iterate 3
            refine w_pure (by kernel_rfl) rfl ?_
            apply Exists.intro
            refine And.intro (fun w4 hC hF => ?_) ?_
            (focus (have hcl := hC.cells; dsimp only at hcl; obtain ⟨⟨a0, a1, a2⟩, ⟨b0, b1, b2⟩, ⟨d0, d1, d2⟩, ⟨x0, x1, x2⟩⟩ := hcl; clear hC hF; unfold gives; go_simp; try with_reducible rfl))
            simp only [Act.put, List.setIfInBounds_toArray, List.set_cons_zero, List.set_cons_succ]
          refine w_free (by kernel_rfl) rfl (fun w4 hC hF hG => ?_) ?_
          · unfold does
            go_simp
            exact outSpec_call (hC6 w4 hC)
          rintro v ⟨A5, c5, rfl⟩
          simp only [Act.put, List.setIfInBounds_toArray, List.set_cons_zero, List.set_cons_succ]
          refine w_free (by kernel_rfl) rfl (fun w4 hC hF hG => ?_) ?_
          · unfold does
            go_simp
            have h5 : (outSpec o6).R (.agg #[.bool o6.ok, .int .i64 o6.to, .slice A5 o6.caps.length c5]) w4 := hF 6 (by decide +kernel)
            obtain ⟨_, _, e, hr5⟩ := h5
            cases e
            exact outSpec_call (hC7 w4 _ _ hC hr5)
          rintro v ⟨A6, c6, rfl⟩
          simp only [Act.put, List.setIfInBounds_toArray, List.set_cons_zero, List.set_cons_succ]
          refine w_free (by kernel_rfl) rfl (fun w4 hC hF hG => ?_) ?_
          · unfold does
            go_simp
            have h4 : (outSpec o7).R (.agg #[.bool o7.ok, .int .i64 o7.to, .slice A4 o7.caps.length c4]) w4 := hF 2 (by decide +kernel)
            have h6 : (outSpec o7).R (.agg #[.bool o7.ok, .int .i64 o7.to, .slice A6 o7.caps.length c6]) w4 := hF 7 (by decide +kernel)
            obtain ⟨_, _, e, hr4⟩ := h4
            cases e
            obtain ⟨_, _, e, hr6⟩ := h6
            cases e
            exact constSpec_call (hC8 w4 _ _ _ _ hr4 hr6)
          intro v hv
          obtain rfl : v = .bool true := hv
          simp only [Act.put, List.setIfInBounds_toArray, List.set_cons_zero, List.set_cons_succ]
          iterate 36
            refine w_pure (by kernel_rfl) rfl ?_
            apply Exists.intro
            refine And.intro (fun w4 hC hF => ?_) ?_
            (focus (have hcl := hC.cells; dsimp only at hcl; obtain ⟨⟨a0, a1, a2⟩, ⟨b0, b1, b2⟩, ⟨d0, d1, d2⟩, ⟨x0, x1, x2⟩⟩ := hcl; clear hC hF; unfold gives; go_simp; try with_reducible rfl))
            simp only [Act.put, List.setIfInBounds_toArray, List.set_cons_zero, List.set_cons_succ]
          refine w_end (fun w4 hC hF hG => ?_)
          go_wp2
          go_meet
          case rel => exact ⟨by simp, hC⟩
      case rest =>
        clear hC2 hC6 hC7 hC8 hL hn6 hn7
        obtain ⟨rfl, hL⟩ := hcut
        have hj2 := HJ.out
        have fj : Out.fits ⟨okj, tj, lj⟩ := by rw [← hj2]; exact joinO_fits _ _ fx fy (by show l1.length + l2.length ≤ _; unfold maxLen; omega)
        obtain ⟨m1, hm1⟩ : ∃ m1, mayB ⟨ok1, t1, l1⟩ 4096 = m1 := ⟨_, rfl⟩
        obtain ⟨m2, hm2⟩ : ∃ m2, mayB ⟨ok2, t2, l2⟩ 4096 = m2 := ⟨_, rfl⟩
        obtain ⟨mj, hmj⟩ : ∃ mj, mayB ⟨okj, tj, lj⟩ 4096 = mj := ⟨_, rfl⟩
        obtain ⟨f1, hf1⟩ : ∃ f, firstO ⟨ok1, t1, l1⟩ = f := ⟨_, rfl⟩
        obtain ⟨f2, hf2⟩ : ∃ f, firstO ⟨ok2, t2, l2⟩ = f := ⟨_, rfl⟩
        have hjm : m1 = true → m2 = true → okj = true → t1 ≤ f2 → t1 ≤ t2 → mj = true := fun a b c d e => by
          rw [← hmj, ← hj2]
          refine join_may _ _ (hm1.trans a) (hm2.trans b) ?_ (by rw [hf2]; exact d) e (by simp only; omega)
          rw [hj2]; exact c
        clear hj2
        have hM1 : ∀ w4, LInv w ⟨⟨ok1, t1, l1⟩, A1, c1⟩ ⟨⟨ok2, t2, l2⟩, A2, c2⟩ ⟨⟨ok3, t3, l3⟩, A3, c3⟩ ⟨⟨okj, tj, lj⟩, Aj, cj⟩ w3.heap.size w4 → Calls Tryd.prog 13 #[.agg #[.bool ok1, .int .i64 t1, .slice A1 l1.length c1], .int .i64 4096] w4 (fun e w' => e = .returned (.bool m1) ∧ Below w4.heap.size w4 w') := fun w4 hC => by
          have hcall := spanMay_any w4 ⟨⟨ok1, t1, l1⟩, A1, c1⟩ 4096 (Reads.more (hx.below hC.bel) hC.bel.size) fx
          rw [hm1] at hcall
          exact hcall
        have hM2 : ∀ w4, LInv w ⟨⟨ok1, t1, l1⟩, A1, c1⟩ ⟨⟨ok2, t2, l2⟩, A2, c2⟩ ⟨⟨ok3, t3, l3⟩, A3, c3⟩ ⟨⟨okj, tj, lj⟩, Aj, cj⟩ w3.heap.size w4 → Calls Tryd.prog 13 #[.agg #[.bool ok2, .int .i64 t2, .slice A2 l2.length c2], .int .i64 4096] w4 (fun e w' => e = .returned (.bool m2) ∧ Below w4.heap.size w4 w') := fun w4 hC => by
          have hcall := spanMay_any w4 ⟨⟨ok2, t2, l2⟩, A2, c2⟩ 4096 (Reads.more (hy.below hC.bel) hC.bel.size) fy
          rw [hm2] at hcall
          exact hcall
        have hMj : ∀ w4, LInv w ⟨⟨ok1, t1, l1⟩, A1, c1⟩ ⟨⟨ok2, t2, l2⟩, A2, c2⟩ ⟨⟨ok3, t3, l3⟩, A3, c3⟩ ⟨⟨okj, tj, lj⟩, Aj, cj⟩ w3.heap.size w4 → Calls Tryd.prog 13 #[.agg #[.bool okj, .int .i64 tj, .slice Aj lj.length cj], .int .i64 4096] w4 (fun e w' => e = .returned (.bool mj) ∧ Below w4.heap.size w4 w') := fun w4 hC => by
          have hcall := spanMay_any w4 ⟨⟨okj, tj, lj⟩, Aj, cj⟩ 4096 (Reads.more hC.rd (Nat.le_of_lt hC.x.lt)) fj
          rw [hmj] at hcall
          exact hcall
        have hF2 : ∀ w4, LInv w ⟨⟨ok1, t1, l1⟩, A1, c1⟩ ⟨⟨ok2, t2, l2⟩, A2, c2⟩ ⟨⟨ok3, t3, l3⟩, A3, c3⟩ ⟨⟨okj, tj, lj⟩, Aj, cj⟩ w3.heap.size w4 → Calls Tryd.prog 20 #[.agg #[.bool ok2, .int .i64 t2, .slice A2 l2.length c2]] w4 (fun e w' => e = .returned (.int .i64 f2) ∧ Below w4.heap.size w4 w') := fun w4 hC => by
          have hcall := first_any w4 w.heap.size ⟨⟨ok2, t2, l2⟩, A2, c2⟩ (hy.below hC.bel) hC.bel.size
          rw [hf2] at hcall
          exact hcall
        have HM1 := Lib.hid hm1
        have HF1 := Lib.hid hf1
        clear hm1 hm2 hmj hf1 hf2
        go_upto_region 6 with fail
        go_cut [105] from 77 to 105 (fun c wx => c = .bool false ∧ LInv w ⟨⟨ok1, t1, l1⟩, A1, c1⟩ ⟨⟨ok2, t2, l2⟩, A2, c2⟩ ⟨⟨ok3, t3, l3⟩, A3, c3⟩ ⟨⟨okj, tj, lj⟩, Aj, cj⟩ w3.heap.size wx)
        case first =>
          clear HM1 HF1 HJ
          cases m1
          · clear hjm
            refine region_free (LInv w _ _ _ _ w3.heap.size) (fun | 1 => some (constSpec (.bool false)) | 4 => some (constSpec (.bool m2)) | 14 => some (constSpec (.int .i64 f2)) | 26 => some (constSpec (.bool mj)) | _ => none) (by kernel_rfl) (by decide +kernel) (by decide +kernel) (by decide +kernel) (fun k s hs => ?_) (LInv.stays _ _ _ _ _ _) hL.drew ?_
            · split at hs <;> cases hs <;> exact constSpec_ok _
            simp only [idx, Nat.reduceAdd]
            iterate 1
              refine w_pure (by kernel_rfl) rfl ?_
              apply Exists.intro
              refine And.intro (fun w4 hC hF => ?_) ?_
              (focus (have hcl := hC.cells; dsimp only at hcl; obtain ⟨⟨a0, a1, a2⟩, ⟨b0, b1, b2⟩, ⟨d0, d1, d2⟩, ⟨x0, x1, x2⟩⟩ := hcl; clear hC hF; unfold gives; go_simp; try with_reducible rfl))
              simp only [Act.put, List.setIfInBounds_toArray, List.set_cons_zero, List.set_cons_succ]
            refine w_free (by kernel_rfl) rfl (fun w4 hC hF hG => ?_) ?_
            · unfold does
              go_simp
              exact constSpec_call (hM1 w4 hC)
            intro v hv
            obtain rfl := (show v = _ from hv)
            simp only [Act.put, List.setIfInBounds_toArray, List.set_cons_zero, List.set_cons_succ]
            iterate 1
              refine w_pure (by kernel_rfl) rfl ?_
              apply Exists.intro
              refine And.intro (fun w4 hC hF => ?_) ?_
              (focus (have hcl := hC.cells; dsimp only at hcl; obtain ⟨⟨a0, a1, a2⟩, ⟨b0, b1, b2⟩, ⟨d0, d1, d2⟩, ⟨x0, x1, x2⟩⟩ := hcl; clear hC hF; unfold gives; go_simp; try with_reducible rfl))
              simp only [Act.put, List.setIfInBounds_toArray, List.set_cons_zero, List.set_cons_succ]
            iterate 2
              refine w_skip (by kernel_rfl) ?_
              simp only [Act.put, List.setIfInBounds_toArray, List.set_cons_zero, List.set_cons_succ]
            iterate 2
              refine w_pure (by kernel_rfl) rfl ?_
              apply Exists.intro
              refine And.intro (fun w4 hC hF => ?_) ?_
              (focus (have hcl := hC.cells; dsimp only at hcl; obtain ⟨⟨a0, a1, a2⟩, ⟨b0, b1, b2⟩, ⟨d0, d1, d2⟩, ⟨x0, x1, x2⟩⟩ := hcl; clear hC hF; unfold gives; go_simp; try with_reducible rfl))
              simp only [Act.put, List.setIfInBounds_toArray, List.set_cons_zero, List.set_cons_succ]
            iterate 2
              refine w_skip (by kernel_rfl) ?_
              simp only [Act.put, List.setIfInBounds_toArray, List.set_cons_zero, List.set_cons_succ]
            iterate 2
              refine w_pure (by kernel_rfl) rfl ?_
              apply Exists.intro
              refine And.intro (fun w4 hC hF => ?_) ?_
              (focus (have hcl := hC.cells; dsimp only at hcl; obtain ⟨⟨a0, a1, a2⟩, ⟨b0, b1, b2⟩, ⟨d0, d1, d2⟩, ⟨x0, x1, x2⟩⟩ := hcl; clear hC hF; unfold gives; go_simp; try with_reducible rfl))
              simp only [Act.put, List.setIfInBounds_toArray, List.set_cons_zero, List.set_cons_succ]
            iterate 5
              refine w_skip (by kernel_rfl) ?_
              simp only [Act.put, List.setIfInBounds_toArray, List.set_cons_zero, List.set_cons_succ]
            iterate 2
              refine w_pure (by kernel_rfl) rfl ?_
              apply Exists.intro
              refine And.intro (fun w4 hC hF => ?_) ?_
              (focus (have hcl := hC.cells; dsimp only at hcl; obtain ⟨⟨a0, a1, a2⟩, ⟨b0, b1, b2⟩, ⟨d0, d1, d2⟩, ⟨x0, x1, x2⟩⟩ := hcl; clear hC hF; unfold gives; go_simp; try with_reducible rfl))
              simp only [Act.put, List.setIfInBounds_toArray, List.set_cons_zero, List.set_cons_succ]
            iterate 5
              refine w_skip (by kernel_rfl) ?_
              simp only [Act.put, List.setIfInBounds_toArray, List.set_cons_zero, List.set_cons_succ]
            iterate 2
              refine w_pure (by kernel_rfl) rfl ?_
              apply Exists.intro
              refine And.intro (fun w4 hC hF => ?_) ?_
              (focus (have hcl := hC.cells; dsimp only at hcl; obtain ⟨⟨a0, a1, a2⟩, ⟨b0, b1, b2⟩, ⟨d0, d1, d2⟩, ⟨x0, x1, x2⟩⟩ := hcl; clear hC hF; unfold gives; go_simp; try with_reducible rfl))
              simp only [Act.put, List.setIfInBounds_toArray, List.set_cons_zero, List.set_cons_succ]
            iterate 3
              refine w_skip (by kernel_rfl) ?_
              simp only [Act.put, List.setIfInBounds_toArray, List.set_cons_zero, List.set_cons_succ]
            iterate 1
              refine w_pure (by kernel_rfl) rfl ?_
              apply Exists.intro
              refine And.intro (fun w4 hC hF => ?_) ?_
              (focus (have hcl := hC.cells; dsimp only at hcl; obtain ⟨⟨a0, a1, a2⟩, ⟨b0, b1, b2⟩, ⟨d0, d1, d2⟩, ⟨x0, x1, x2⟩⟩ := hcl; clear hC hF; unfold gives; go_simp; try with_reducible rfl))
              simp only [Act.put, List.setIfInBounds_toArray, List.set_cons_zero, List.set_cons_succ]
            refine w_end (fun w4 hC hF hG => ?_)
            go_wp2
            go_meet
            case rel => exact ⟨by simp [*], hC⟩
          cases m2
          · clear hjm
            refine region_free (LInv w _ _ _ _ w3.heap.size) (fun | 1 => some (constSpec (.bool true)) | 4 => some (constSpec (.bool false)) | 14 => some (constSpec (.int .i64 f2)) | 26 => some (constSpec (.bool mj)) | _ => none) (by kernel_rfl) (by decide +kernel) (by decide +kernel) (by decide +kernel) (fun k s hs => ?_) (LInv.stays _ _ _ _ _ _) hL.drew ?_
            · split at hs <;> cases hs <;> exact constSpec_ok _
            simp only [idx, Nat.reduceAdd]
            iterate 1
              refine w_pure (by kernel_rfl) rfl ?_
              apply Exists.intro
              refine And.intro (fun w4 hC hF => ?_) ?_
              (focus (have hcl := hC.cells; dsimp only at hcl; obtain ⟨⟨a0, a1, a2⟩, ⟨b0, b1, b2⟩, ⟨d0, d1, d2⟩, ⟨x0, x1, x2⟩⟩ := hcl; clear hC hF; unfold gives; go_simp; try with_reducible rfl))
              simp only [Act.put, List.setIfInBounds_toArray, List.set_cons_zero, List.set_cons_succ]
            refine w_free (by kernel_rfl) rfl (fun w4 hC hF hG => ?_) ?_
            · unfold does
              go_simp
              exact constSpec_call (hM1 w4 hC)
            intro v hv
            obtain rfl := (show v = _ from hv)
            simp only [Act.put, List.setIfInBounds_toArray, List.set_cons_zero, List.set_cons_succ]
            iterate 1
              refine w_pure (by kernel_rfl) rfl ?_
              apply Exists.intro
              refine And.intro (fun w4 hC hF => ?_) ?_
              (focus (have hcl := hC.cells; dsimp only at hcl; obtain ⟨⟨a0, a1, a2⟩, ⟨b0, b1, b2⟩, ⟨d0, d1, d2⟩, ⟨x0, x1, x2⟩⟩ := hcl; clear hC hF; unfold gives; go_simp; try with_reducible rfl))
              simp only [Act.put, List.setIfInBounds_toArray, List.set_cons_zero, List.set_cons_succ]
            iterate 1
              refine w_pure (by kernel_rfl) rfl ?_
              apply Exists.intro
              refine And.intro (fun w4 hC hF => ?_) ?_
              (focus (have hcl := hC.cells; dsimp only at hcl; obtain ⟨⟨a0, a1, a2⟩, ⟨b0, b1, b2⟩, ⟨d0, d1, d2⟩, ⟨x0, x1, x2⟩⟩ := hcl; clear hC hF; unfold gives; go_simp; try with_reducible rfl))
              simp only [Act.put, List.setIfInBounds_toArray, List.set_cons_zero, List.set_cons_succ]
            refine w_free (by kernel_rfl) rfl (fun w4 hC hF hG => ?_) ?_
            · unfold does
              go_simp
              exact constSpec_call (hM2 w4 hC)
            intro v hv
            obtain rfl := (show v = _ from hv)
            simp only [Act.put, List.setIfInBounds_toArray, List.set_cons_zero, List.set_cons_succ]
            iterate 2
              refine w_pure (by kernel_rfl) rfl ?_
              apply Exists.intro
              refine And.intro (fun w4 hC hF => ?_) ?_
              (focus (have hcl := hC.cells; dsimp only at hcl; obtain ⟨⟨a0, a1, a2⟩, ⟨b0, b1, b2⟩, ⟨d0, d1, d2⟩, ⟨x0, x1, x2⟩⟩ := hcl; clear hC hF; unfold gives; go_simp; try with_reducible rfl))
              simp only [Act.put, List.setIfInBounds_toArray, List.set_cons_zero, List.set_cons_succ]
            iterate 2
              refine w_skip (by kernel_rfl) ?_
              simp only [Act.put, List.setIfInBounds_toArray, List.set_cons_zero, List.set_cons_succ]
            iterate 2
              refine w_pure (by kernel_rfl) rfl ?_
              apply Exists.intro
              refine And.intro (fun w4 hC hF => ?_) ?_
              (focus (have hcl := hC.cells; dsimp only at hcl; obtain ⟨⟨a0, a1, a2⟩, ⟨b0, b1, b2⟩, ⟨d0, d1, d2⟩, ⟨x0, x1, x2⟩⟩ := hcl; clear hC hF; unfold gives; go_simp; try with_reducible rfl))
              simp only [Act.put, List.setIfInBounds_toArray, List.set_cons_zero, List.set_cons_succ]
            iterate 5
              refine w_skip (by kernel_rfl) ?_
              simp only [Act.put, List.setIfInBounds_toArray, List.set_cons_zero, List.set_cons_succ]
            iterate 2
              refine w_pure (by kernel_rfl) rfl ?_
              apply Exists.intro
              refine And.intro (fun w4 hC hF => ?_) ?_
              (focus (have hcl := hC.cells; dsimp only at hcl; obtain ⟨⟨a0, a1, a2⟩, ⟨b0, b1, b2⟩, ⟨d0, d1, d2⟩, ⟨x0, x1, x2⟩⟩ := hcl; clear hC hF; unfold gives; go_simp; try with_reducible rfl))
              simp only [Act.put, List.setIfInBounds_toArray, List.set_cons_zero, List.set_cons_succ]
            iterate 5
              refine w_skip (by kernel_rfl) ?_
              simp only [Act.put, List.setIfInBounds_toArray, List.set_cons_zero, List.set_cons_succ]
            iterate 2
              refine w_pure (by kernel_rfl) rfl ?_
              apply Exists.intro
              refine And.intro (fun w4 hC hF => ?_) ?_
              (focus (have hcl := hC.cells; dsimp only at hcl; obtain ⟨⟨a0, a1, a2⟩, ⟨b0, b1, b2⟩, ⟨d0, d1, d2⟩, ⟨x0, x1, x2⟩⟩ := hcl; clear hC hF; unfold gives; go_simp; try with_reducible rfl))
              simp only [Act.put, List.setIfInBounds_toArray, List.set_cons_zero, List.set_cons_succ]
            iterate 3
              refine w_skip (by kernel_rfl) ?_
              simp only [Act.put, List.setIfInBounds_toArray, List.set_cons_zero, List.set_cons_succ]
            iterate 1
              refine w_pure (by kernel_rfl) rfl ?_
              apply Exists.intro
              refine And.intro (fun w4 hC hF => ?_) ?_
              (focus (have hcl := hC.cells; dsimp only at hcl; obtain ⟨⟨a0, a1, a2⟩, ⟨b0, b1, b2⟩, ⟨d0, d1, d2⟩, ⟨x0, x1, x2⟩⟩ := hcl; clear hC hF; unfold gives; go_simp; try with_reducible rfl))
              simp only [Act.put, List.setIfInBounds_toArray, List.set_cons_zero, List.set_cons_succ]
            refine w_end (fun w4 hC hF hG => ?_)
            go_wp2
            go_meet
            case rel => exact ⟨by simp [*], hC⟩
          cases okj
          · clear hjm
            refine region_free (LInv w _ _ _ _ w3.heap.size) (fun | 1 => some (constSpec (.bool true)) | 4 => some (constSpec (.bool true)) | 14 => some (constSpec (.int .i64 f2)) | 26 => some (constSpec (.bool mj)) | _ => none) (by kernel_rfl) (by decide +kernel) (by decide +kernel) (by decide +kernel) (fun k s hs => ?_) (LInv.stays _ _ _ _ _ _) hL.drew ?_
            · split at hs <;> cases hs <;> exact constSpec_ok _
            simp only [idx, Nat.reduceAdd]
            iterate 1
              refine w_pure (by kernel_rfl) rfl ?_
              apply Exists.intro
              refine And.intro (fun w4 hC hF => ?_) ?_
              (focus (have hcl := hC.cells; dsimp only at hcl; obtain ⟨⟨a0, a1, a2⟩, ⟨b0, b1, b2⟩, ⟨d0, d1, d2⟩, ⟨x0, x1, x2⟩⟩ := hcl; clear hC hF; unfold gives; go_simp; try with_reducible rfl))
              simp only [Act.put, List.setIfInBounds_toArray, List.set_cons_zero, List.set_cons_succ]
            refine w_free (by kernel_rfl) rfl (fun w4 hC hF hG => ?_) ?_
            · unfold does
              go_simp
              exact constSpec_call (hM1 w4 hC)
            intro v hv
            obtain rfl := (show v = _ from hv)
            simp only [Act.put, List.setIfInBounds_toArray, List.set_cons_zero, List.set_cons_succ]
            iterate 1
              refine w_pure (by kernel_rfl) rfl ?_
              apply Exists.intro
              refine And.intro (fun w4 hC hF => ?_) ?_
              (focus (have hcl := hC.cells; dsimp only at hcl; obtain ⟨⟨a0, a1, a2⟩, ⟨b0, b1, b2⟩, ⟨d0, d1, d2⟩, ⟨x0, x1, x2⟩⟩ := hcl; clear hC hF; unfold gives; go_simp; try with_reducible rfl))
              simp only [Act.put, List.setIfInBounds_toArray, List.set_cons_zero, List.set_cons_succ]
            iterate 1
              refine w_pure (by kernel_rfl) rfl ?_
              apply Exists.intro
              refine And.intro (fun w4 hC hF => ?_) ?_
              (focus (have hcl := hC.cells; dsimp only at hcl; obtain ⟨⟨a0, a1, a2⟩, ⟨b0, b1, b2⟩, ⟨d0, d1, d2⟩, ⟨x0, x1, x2⟩⟩ := hcl; clear hC hF; unfold gives; go_simp; try with_reducible rfl))
              simp only [Act.put, List.setIfInBounds_toArray, List.set_cons_zero, List.set_cons_succ]
            refine w_free (by kernel_rfl) rfl (fun w4 hC hF hG => ?_) ?_
            · unfold does
              go_simp
              exact constSpec_call (hM2 w4 hC)
            intro v hv
            obtain rfl := (show v = _ from hv)
            simp only [Act.put, List.setIfInBounds_toArray, List.set_cons_zero, List.set_cons_succ]
            iterate 4
              refine w_pure (by kernel_rfl) rfl ?_
              apply Exists.intro
              refine And.intro (fun w4 hC hF => ?_) ?_
              (focus (have hcl := hC.cells; dsimp only at hcl; obtain ⟨⟨a0, a1, a2⟩, ⟨b0, b1, b2⟩, ⟨d0, d1, d2⟩, ⟨x0, x1, x2⟩⟩ := hcl; clear hC hF; unfold gives; go_simp; try with_reducible rfl))
              simp only [Act.put, List.setIfInBounds_toArray, List.set_cons_zero, List.set_cons_succ]
            iterate 2
              refine w_pure (by kernel_rfl) rfl ?_
              apply Exists.intro
              refine And.intro (fun w4 hC hF => ?_) ?_
              (focus (have hcl := hC.cells; dsimp only at hcl; obtain ⟨⟨a0, a1, a2⟩, ⟨b0, b1, b2⟩, ⟨d0, d1, d2⟩, ⟨x0, x1, x2⟩⟩ := hcl; clear hC hF; unfold gives; go_simp; try with_reducible rfl))
              simp only [Act.put, List.setIfInBounds_toArray, List.set_cons_zero, List.set_cons_succ]
            iterate 5
              refine w_skip (by kernel_rfl) ?_
              simp only [Act.put, List.setIfInBounds_toArray, List.set_cons_zero, List.set_cons_succ]
            iterate 2
              refine w_pure (by kernel_rfl) rfl ?_
              apply Exists.intro
              refine And.intro (fun w4 hC hF => ?_) ?_
              (focus (have hcl := hC.cells; dsimp only at hcl; obtain ⟨⟨a0, a1, a2⟩, ⟨b0, b1, b2⟩, ⟨d0, d1, d2⟩, ⟨x0, x1, x2⟩⟩ := hcl; clear hC hF; unfold gives; go_simp; try with_reducible rfl))
              simp only [Act.put, List.setIfInBounds_toArray, List.set_cons_zero, List.set_cons_succ]
            iterate 5
              refine w_skip (by kernel_rfl) ?_
              simp only [Act.put, List.setIfInBounds_toArray, List.set_cons_zero, List.set_cons_succ]
            iterate 2
              refine w_pure (by kernel_rfl) rfl ?_
              apply Exists.intro
              refine And.intro (fun w4 hC hF => ?_) ?_
              (focus (have hcl := hC.cells; dsimp only at hcl; obtain ⟨⟨a0, a1, a2⟩, ⟨b0, b1, b2⟩, ⟨d0, d1, d2⟩, ⟨x0, x1, x2⟩⟩ := hcl; clear hC hF; unfold gives; go_simp; try with_reducible rfl))
              simp only [Act.put, List.setIfInBounds_toArray, List.set_cons_zero, List.set_cons_succ]
            iterate 3
              refine w_skip (by kernel_rfl) ?_
              simp only [Act.put, List.setIfInBounds_toArray, List.set_cons_zero, List.set_cons_succ]
            iterate 1
              refine w_pure (by kernel_rfl) rfl ?_
              apply Exists.intro
              refine And.intro (fun w4 hC hF => ?_) ?_
              (focus (have hcl := hC.cells; dsimp only at hcl; obtain ⟨⟨a0, a1, a2⟩, ⟨b0, b1, b2⟩, ⟨d0, d1, d2⟩, ⟨x0, x1, x2⟩⟩ := hcl; clear hC hF; unfold gives; go_simp; try with_reducible rfl))
              simp only [Act.put, List.setIfInBounds_toArray, List.set_cons_zero, List.set_cons_succ]
            refine w_end (fun w4 hC hF hG => ?_)
            go_wp2
            go_meet
            case rel => exact ⟨by simp [*], hC⟩
          by_cases h12 : t1 ≤ f2
          · by_cases h13 : t1 ≤ t2
            · obtain rfl := hjm rfl rfl rfl h12 h13
              refine region_free (LInv w _ _ _ _ w3.heap.size) (fun | 1 => some (constSpec (.bool true)) | 4 => some (constSpec (.bool true)) | 14 => some (constSpec (.int .i64 f2)) | 26 => some (constSpec (.bool true)) | _ => none) (by kernel_rfl) (by decide +kernel) (by decide +kernel) (by decide +kernel) (fun k s hs => ?_) (LInv.stays _ _ _ _ _ _) hL.drew ?_
              · split at hs <;> cases hs <;> exact constSpec_ok _
              simp only [idx, Nat.reduceAdd]
              iterate 1
                refine w_pure (by kernel_rfl) rfl ?_
                apply Exists.intro
                refine And.intro (fun w4 hC hF => ?_) ?_
                (focus (have hcl := hC.cells; dsimp only at hcl; obtain ⟨⟨a0, a1, a2⟩, ⟨b0, b1, b2⟩, ⟨d0, d1, d2⟩, ⟨x0, x1, x2⟩⟩ := hcl; clear hC hF; unfold gives; go_simp; try with_reducible rfl))
                simp only [Act.put, List.setIfInBounds_toArray, List.set_cons_zero, List.set_cons_succ]
              refine w_free (by kernel_rfl) rfl (fun w4 hC hF hG => ?_) ?_
              · unfold does
                go_simp
                exact constSpec_call (hM1 w4 hC)
              intro v hv
              obtain rfl := (show v = _ from hv)
              simp only [Act.put, List.setIfInBounds_toArray, List.set_cons_zero, List.set_cons_succ]
              iterate 1
                refine w_pure (by kernel_rfl) rfl ?_
                apply Exists.intro
                refine And.intro (fun w4 hC hF => ?_) ?_
                (focus (have hcl := hC.cells; dsimp only at hcl; obtain ⟨⟨a0, a1, a2⟩, ⟨b0, b1, b2⟩, ⟨d0, d1, d2⟩, ⟨x0, x1, x2⟩⟩ := hcl; clear hC hF; unfold gives; go_simp; try with_reducible rfl))
                simp only [Act.put, List.setIfInBounds_toArray, List.set_cons_zero, List.set_cons_succ]
              iterate 1
                refine w_pure (by kernel_rfl) rfl ?_
                apply Exists.intro
                refine And.intro (fun w4 hC hF => ?_) ?_
                (focus (have hcl := hC.cells; dsimp only at hcl; obtain ⟨⟨a0, a1, a2⟩, ⟨b0, b1, b2⟩, ⟨d0, d1, d2⟩, ⟨x0, x1, x2⟩⟩ := hcl; clear hC hF; unfold gives; go_simp; try with_reducible rfl))
                simp only [Act.put, List.setIfInBounds_toArray, List.set_cons_zero, List.set_cons_succ]
              refine w_free (by kernel_rfl) rfl (fun w4 hC hF hG => ?_) ?_
              · unfold does
                go_simp
                exact constSpec_call (hM2 w4 hC)
              intro v hv
              obtain rfl := (show v = _ from hv)
              simp only [Act.put, List.setIfInBounds_toArray, List.set_cons_zero, List.set_cons_succ]
              iterate 9
                refine w_pure (by kernel_rfl) rfl ?_
                apply Exists.intro
                refine And.intro (fun w4 hC hF => ?_) ?_
                (focus (have hcl := hC.cells; dsimp only at hcl; obtain ⟨⟨a0, a1, a2⟩, ⟨b0, b1, b2⟩, ⟨d0, d1, d2⟩, ⟨x0, x1, x2⟩⟩ := hcl; clear hC hF; unfold gives; go_simp; try with_reducible rfl))
                simp only [Act.put, List.setIfInBounds_toArray, List.set_cons_zero, List.set_cons_succ]
              refine w_free (by kernel_rfl) rfl (fun w4 hC hF hG => ?_) ?_
              · unfold does
                go_simp
                exact constSpec_call (hF2 w4 hC)
              intro v hv
              obtain rfl := (show v = _ from hv)
              simp only [Act.put, List.setIfInBounds_toArray, List.set_cons_zero, List.set_cons_succ]
              iterate 3
                refine w_pure (by kernel_rfl) rfl ?_
                apply Exists.intro
                refine And.intro (fun w4 hC hF => ?_) ?_
                (focus (have hcl := hC.cells; dsimp only at hcl; obtain ⟨⟨a0, a1, a2⟩, ⟨b0, b1, b2⟩, ⟨d0, d1, d2⟩, ⟨x0, x1, x2⟩⟩ := hcl; clear hC hF; unfold gives; go_simp; try with_reducible rfl))
                simp only [Act.put, List.setIfInBounds_toArray, List.set_cons_zero, List.set_cons_succ]
              iterate 7
                refine w_pure (by kernel_rfl) rfl ?_
                apply Exists.intro
                refine And.intro (fun w4 hC hF => ?_) ?_
                (focus (have hcl := hC.cells; dsimp only at hcl; obtain ⟨⟨a0, a1, a2⟩, ⟨b0, b1, b2⟩, ⟨d0, d1, d2⟩, ⟨x0, x1, x2⟩⟩ := hcl; clear hC hF; unfold gives; go_simp; try with_reducible rfl))
                simp only [Act.put, List.setIfInBounds_toArray, List.set_cons_zero, List.set_cons_succ]
              iterate 1
                refine w_pure (by kernel_rfl) rfl ?_
                apply Exists.intro
                refine And.intro (fun w4 hC hF => ?_) ?_
                (focus (have hcl := hC.cells; dsimp only at hcl; obtain ⟨⟨a0, a1, a2⟩, ⟨b0, b1, b2⟩, ⟨d0, d1, d2⟩, ⟨x0, x1, x2⟩⟩ := hcl; clear hC hF; unfold gives; go_simp; try with_reducible rfl))
                simp only [Act.put, List.setIfInBounds_toArray, List.set_cons_zero, List.set_cons_succ]
              refine w_free (by kernel_rfl) rfl (fun w4 hC hF hG => ?_) ?_
              · unfold does
                go_simp
                exact constSpec_call (hMj w4 hC)
              intro v hv
              obtain rfl := (show v = _ from hv)
              simp only [Act.put, List.setIfInBounds_toArray, List.set_cons_zero, List.set_cons_succ]
              iterate 2
                refine w_pure (by kernel_rfl) rfl ?_
                apply Exists.intro
                refine And.intro (fun w4 hC hF => ?_) ?_
                (focus (have hcl := hC.cells; dsimp only at hcl; obtain ⟨⟨a0, a1, a2⟩, ⟨b0, b1, b2⟩, ⟨d0, d1, d2⟩, ⟨x0, x1, x2⟩⟩ := hcl; clear hC hF; unfold gives; go_simp; try with_reducible rfl))
                simp only [Act.put, List.setIfInBounds_toArray, List.set_cons_zero, List.set_cons_succ]
              refine w_end (fun w4 hC hF hG => ?_)
              go_wp2
              go_meet
              case rel => exact ⟨by simp [*], hC⟩
            · clear hjm
              refine region_free (LInv w _ _ _ _ w3.heap.size) (fun | 1 => some (constSpec (.bool true)) | 4 => some (constSpec (.bool true)) | 14 => some (constSpec (.int .i64 f2)) | 26 => some (constSpec (.bool mj)) | _ => none) (by kernel_rfl) (by decide +kernel) (by decide +kernel) (by decide +kernel) (fun k s hs => ?_) (LInv.stays _ _ _ _ _ _) hL.drew ?_
              · split at hs <;> cases hs <;> exact constSpec_ok _
              simp only [idx, Nat.reduceAdd]
              iterate 1
                refine w_pure (by kernel_rfl) rfl ?_
                apply Exists.intro
                refine And.intro (fun w4 hC hF => ?_) ?_
                (focus (have hcl := hC.cells; dsimp only at hcl; obtain ⟨⟨a0, a1, a2⟩, ⟨b0, b1, b2⟩, ⟨d0, d1, d2⟩, ⟨x0, x1, x2⟩⟩ := hcl; clear hC hF; unfold gives; go_simp; try with_reducible rfl))
                simp only [Act.put, List.setIfInBounds_toArray, List.set_cons_zero, List.set_cons_succ]
              refine w_free (by kernel_rfl) rfl (fun w4 hC hF hG => ?_) ?_
              · unfold does
                go_simp
                exact constSpec_call (hM1 w4 hC)
              intro v hv
              obtain rfl := (show v = _ from hv)
              simp only [Act.put, List.setIfInBounds_toArray, List.set_cons_zero, List.set_cons_succ]
              iterate 1
                refine w_pure (by kernel_rfl) rfl ?_
                apply Exists.intro
                refine And.intro (fun w4 hC hF => ?_) ?_
                (focus (have hcl := hC.cells; dsimp only at hcl; obtain ⟨⟨a0, a1, a2⟩, ⟨b0, b1, b2⟩, ⟨d0, d1, d2⟩, ⟨x0, x1, x2⟩⟩ := hcl; clear hC hF; unfold gives; go_simp; try with_reducible rfl))
                simp only [Act.put, List.setIfInBounds_toArray, List.set_cons_zero, List.set_cons_succ]
              iterate 1
                refine w_pure (by kernel_rfl) rfl ?_
                apply Exists.intro
                refine And.intro (fun w4 hC hF => ?_) ?_
                (focus (have hcl := hC.cells; dsimp only at hcl; obtain ⟨⟨a0, a1, a2⟩, ⟨b0, b1, b2⟩, ⟨d0, d1, d2⟩, ⟨x0, x1, x2⟩⟩ := hcl; clear hC hF; unfold gives; go_simp; try with_reducible rfl))
                simp only [Act.put, List.setIfInBounds_toArray, List.set_cons_zero, List.set_cons_succ]
              refine w_free (by kernel_rfl) rfl (fun w4 hC hF hG => ?_) ?_
              · unfold does
                go_simp
                exact constSpec_call (hM2 w4 hC)
              intro v hv
              obtain rfl := (show v = _ from hv)
              simp only [Act.put, List.setIfInBounds_toArray, List.set_cons_zero, List.set_cons_succ]
              iterate 9
                refine w_pure (by kernel_rfl) rfl ?_
                apply Exists.intro
                refine And.intro (fun w4 hC hF => ?_) ?_
                (focus (have hcl := hC.cells; dsimp only at hcl; obtain ⟨⟨a0, a1, a2⟩, ⟨b0, b1, b2⟩, ⟨d0, d1, d2⟩, ⟨x0, x1, x2⟩⟩ := hcl; clear hC hF; unfold gives; go_simp; try with_reducible rfl))
                simp only [Act.put, List.setIfInBounds_toArray, List.set_cons_zero, List.set_cons_succ]
              refine w_free (by kernel_rfl) rfl (fun w4 hC hF hG => ?_) ?_
              · unfold does
                go_simp
                exact constSpec_call (hF2 w4 hC)
              intro v hv
              obtain rfl := (show v = _ from hv)
              simp only [Act.put, List.setIfInBounds_toArray, List.set_cons_zero, List.set_cons_succ]
              iterate 3
                refine w_pure (by kernel_rfl) rfl ?_
                apply Exists.intro
                refine And.intro (fun w4 hC hF => ?_) ?_
                (focus (have hcl := hC.cells; dsimp only at hcl; obtain ⟨⟨a0, a1, a2⟩, ⟨b0, b1, b2⟩, ⟨d0, d1, d2⟩, ⟨x0, x1, x2⟩⟩ := hcl; clear hC hF; unfold gives; go_simp; try with_reducible rfl))
                simp only [Act.put, List.setIfInBounds_toArray, List.set_cons_zero, List.set_cons_succ]
              iterate 7
                refine w_pure (by kernel_rfl) rfl ?_
                apply Exists.intro
                refine And.intro (fun w4 hC hF => ?_) ?_
                (focus (have hcl := hC.cells; dsimp only at hcl; obtain ⟨⟨a0, a1, a2⟩, ⟨b0, b1, b2⟩, ⟨d0, d1, d2⟩, ⟨x0, x1, x2⟩⟩ := hcl; clear hC hF; unfold gives; go_simp; try with_reducible rfl))
                simp only [Act.put, List.setIfInBounds_toArray, List.set_cons_zero, List.set_cons_succ]
              iterate 3
                refine w_skip (by kernel_rfl) ?_
                simp only [Act.put, List.setIfInBounds_toArray, List.set_cons_zero, List.set_cons_succ]
              iterate 1
                refine w_pure (by kernel_rfl) rfl ?_
                apply Exists.intro
                refine And.intro (fun w4 hC hF => ?_) ?_
                (focus (have hcl := hC.cells; dsimp only at hcl; obtain ⟨⟨a0, a1, a2⟩, ⟨b0, b1, b2⟩, ⟨d0, d1, d2⟩, ⟨x0, x1, x2⟩⟩ := hcl; clear hC hF; unfold gives; go_simp; try with_reducible rfl))
                simp only [Act.put, List.setIfInBounds_toArray, List.set_cons_zero, List.set_cons_succ]
              refine w_end (fun w4 hC hF hG => ?_)
              go_wp2
              go_meet
              case rel => exact ⟨by simp [*], hC⟩
          · clear hjm
            refine region_free (LInv w _ _ _ _ w3.heap.size) (fun | 1 => some (constSpec (.bool true)) | 4 => some (constSpec (.bool true)) | 14 => some (constSpec (.int .i64 f2)) | 26 => some (constSpec (.bool mj)) | _ => none) (by kernel_rfl) (by decide +kernel) (by decide +kernel) (by decide +kernel) (fun k s hs => ?_) (LInv.stays _ _ _ _ _ _) hL.drew ?_
            · split at hs <;> cases hs <;> exact constSpec_ok _
            simp only [idx, Nat.reduceAdd]
            iterate 1
              refine w_pure (by kernel_rfl) rfl ?_
              apply Exists.intro
              refine And.intro (fun w4 hC hF => ?_) ?_
              (focus (have hcl := hC.cells; dsimp only at hcl; obtain ⟨⟨a0, a1, a2⟩, ⟨b0, b1, b2⟩, ⟨d0, d1, d2⟩, ⟨x0, x1, x2⟩⟩ := hcl; clear hC hF; unfold gives; go_simp; try with_reducible rfl))
              simp only [Act.put, List.setIfInBounds_toArray, List.set_cons_zero, List.set_cons_succ]
            refine w_free (by kernel_rfl) rfl (fun w4 hC hF hG => ?_) ?_
            · unfold does
              go_simp
              exact constSpec_call (hM1 w4 hC)
            intro v hv
            obtain rfl := (show v = _ from hv)
            simp only [Act.put, List.setIfInBounds_toArray, List.set_cons_zero, List.set_cons_succ]
            iterate 1
              refine w_pure (by kernel_rfl) rfl ?_
              apply Exists.intro
              refine And.intro (fun w4 hC hF => ?_) ?_
              (focus (have hcl := hC.cells; dsimp only at hcl; obtain ⟨⟨a0, a1, a2⟩, ⟨b0, b1, b2⟩, ⟨d0, d1, d2⟩, ⟨x0, x1, x2⟩⟩ := hcl; clear hC hF; unfold gives; go_simp; try with_reducible rfl))
              simp only [Act.put, List.setIfInBounds_toArray, List.set_cons_zero, List.set_cons_succ]
            iterate 1
              refine w_pure (by kernel_rfl) rfl ?_
              apply Exists.intro
              refine And.intro (fun w4 hC hF => ?_) ?_
              (focus (have hcl := hC.cells; dsimp only at hcl; obtain ⟨⟨a0, a1, a2⟩, ⟨b0, b1, b2⟩, ⟨d0, d1, d2⟩, ⟨x0, x1, x2⟩⟩ := hcl; clear hC hF; unfold gives; go_simp; try with_reducible rfl))
              simp only [Act.put, List.setIfInBounds_toArray, List.set_cons_zero, List.set_cons_succ]
            refine w_free (by kernel_rfl) rfl (fun w4 hC hF hG => ?_) ?_
            · unfold does
              go_simp
              exact constSpec_call (hM2 w4 hC)
            intro v hv
            obtain rfl := (show v = _ from hv)
            simp only [Act.put, List.setIfInBounds_toArray, List.set_cons_zero, List.set_cons_succ]
            iterate 9
              refine w_pure (by kernel_rfl) rfl ?_
              apply Exists.intro
              refine And.intro (fun w4 hC hF => ?_) ?_
              (focus (have hcl := hC.cells; dsimp only at hcl; obtain ⟨⟨a0, a1, a2⟩, ⟨b0, b1, b2⟩, ⟨d0, d1, d2⟩, ⟨x0, x1, x2⟩⟩ := hcl; clear hC hF; unfold gives; go_simp; try with_reducible rfl))
              simp only [Act.put, List.setIfInBounds_toArray, List.set_cons_zero, List.set_cons_succ]
            refine w_free (by kernel_rfl) rfl (fun w4 hC hF hG => ?_) ?_
            · unfold does
              go_simp
              exact constSpec_call (hF2 w4 hC)
            intro v hv
            obtain rfl := (show v = _ from hv)
            simp only [Act.put, List.setIfInBounds_toArray, List.set_cons_zero, List.set_cons_succ]
            iterate 3
              refine w_pure (by kernel_rfl) rfl ?_
              apply Exists.intro
              refine And.intro (fun w4 hC hF => ?_) ?_
              (focus (have hcl := hC.cells; dsimp only at hcl; obtain ⟨⟨a0, a1, a2⟩, ⟨b0, b1, b2⟩, ⟨d0, d1, d2⟩, ⟨x0, x1, x2⟩⟩ := hcl; clear hC hF; unfold gives; go_simp; try with_reducible rfl))
              simp only [Act.put, List.setIfInBounds_toArray, List.set_cons_zero, List.set_cons_succ]
            iterate 5
              refine w_skip (by kernel_rfl) ?_
              simp only [Act.put, List.setIfInBounds_toArray, List.set_cons_zero, List.set_cons_succ]
            iterate 2
              refine w_pure (by kernel_rfl) rfl ?_
              apply Exists.intro
              refine And.intro (fun w4 hC hF => ?_) ?_
              (focus (have hcl := hC.cells; dsimp only at hcl; obtain ⟨⟨a0, a1, a2⟩, ⟨b0, b1, b2⟩, ⟨d0, d1, d2⟩, ⟨x0, x1, x2⟩⟩ := hcl; clear hC hF; unfold gives; go_simp; try with_reducible rfl))
              simp only [Act.put, List.setIfInBounds_toArray, List.set_cons_zero, List.set_cons_succ]
            iterate 3
              refine w_skip (by kernel_rfl) ?_
              simp only [Act.put, List.setIfInBounds_toArray, List.set_cons_zero, List.set_cons_succ]
            iterate 1
              refine w_pure (by kernel_rfl) rfl ?_
              apply Exists.intro
              refine And.intro (fun w4 hC hF => ?_) ?_
              (focus (have hcl := hC.cells; dsimp only at hcl; obtain ⟨⟨a0, a1, a2⟩, ⟨b0, b1, b2⟩, ⟨d0, d1, d2⟩, ⟨x0, x1, x2⟩⟩ := hcl; clear hC hF; unfold gives; go_simp; try with_reducible rfl))
              simp only [Act.put, List.setIfInBounds_toArray, List.set_cons_zero, List.set_cons_succ]
            refine w_end (fun w4 hC hF hG => ?_)
            go_wp2
            go_meet
            case rel => exact ⟨by simp [*], hC⟩
        case rest =>
          clear hM2 hMj hF2 hM1 hL fj hjm
          obtain ⟨rfl, hL⟩ := hcut
          have hcl := hL.cells
          dsimp only at hcl
          obtain ⟨⟨a0, a1, a2⟩, _⟩ := hcl
          go_wp2_with fail
          refine (cap_any wc s fr ⟨⟨ok1, t1, l1⟩, A1, c1⟩ (Reads.more (hx.below hL.bel) hL.bel.size) (by dsimp only; omega)).mono ?_
          rintro e w5 ⟨Ay, cy, rfl, hown, hb5⟩
          have hP0 : ∀ yo : Out, capO s fr ⟨ok1, t1, l1⟩ = yo → PInv w ⟨⟨ok1, t1, l1⟩, A1, c1⟩ ⟨yo, Ay, cy⟩ w5.heap.size (w5.alloc (.cells (OutV.cells ⟨yo, Ay, cy⟩).toArray 24)) := fun yo hyo => by
            rw [hyo] at hown
            exact ⟨(hL.a.below hb5 hL.a.lt).alloc _, Blk.new_ _ _ _, (hown.rd).alloc (Nat.le_refl _) _, (hL.bel.trans (hb5.mono hL.bel.size)).alloc (Nat.le_trans hL.bel.size hb5.size) _⟩
          have hM1 : ∀ yv gy w4, PInv w ⟨⟨ok1, t1, l1⟩, A1, c1⟩ yv gy w4 → Calls Tryd.prog 13 #[.agg #[.bool ok1, .int .i64 t1, .slice A1 l1.length c1], .int .i64 4096] w4 (fun e w' => e = .returned (.bool m1) ∧ Below w4.heap.size w4 w') := fun yv gy w4 hC => by
            have hcall := spanMay_any w4 ⟨⟨ok1, t1, l1⟩, A1, c1⟩ 4096 (Reads.more (hx.below hC.bel) hC.bel.size) fx
            rw [HM1.out] at hcall
            exact hcall
          have hF1 : ∀ yv gy w4, PInv w ⟨⟨ok1, t1, l1⟩, A1, c1⟩ yv gy w4 → Calls Tryd.prog 20 #[.agg #[.bool ok1, .int .i64 t1, .slice A1 l1.length c1]] w4 (fun e w' => e = .returned (.int .i64 f1) ∧ Below w4.heap.size w4 w') := fun yv gy w4 hC => by
            have hcall := first_any w4 w.heap.size ⟨⟨ok1, t1, l1⟩, A1, c1⟩ (hx.below hC.bel) hC.bel.size
            rw [HF1.out] at hcall
            exact hcall
          clear a0 a1 a2
          cases ok1
          · have hP := hP0 ⟨false, 0, []⟩ rfl
            have hyo : capO s fr ⟨false, t1, l1⟩ = ⟨false, 0, []⟩ := rfl
            rw [hyo]
            clear hP0 hyo hown hb5 hL
            go_upto_region 9 with fail
            refine region_free (PInv w _ _ w5.heap.size) (fun _ => none) (by kernel_rfl) (by decide +kernel) (by decide +kernel) (by decide +kernel) (fun k s hs => by cases hs) (PInv.stays _ _ _ _) hP.drew ?_
            simp only [idx, Nat.reduceAdd]
            iterate 9
              refine w_pure (by kernel_rfl) rfl ?_
              apply Exists.intro
              refine And.intro (fun w4 hC hF => ?_) ?_
              (focus (have hcl := hC.cells; dsimp only at hcl; obtain ⟨⟨a0, a1, a2⟩, ⟨y0, y1, y2⟩⟩ := hcl; clear hC hF; unfold gives; go_simp; try with_reducible rfl))
              simp only [Act.put, List.setIfInBounds_toArray, List.set_cons_zero, List.set_cons_succ]
            iterate 17
              refine w_skip (by kernel_rfl) ?_
              simp only [Act.put, List.setIfInBounds_toArray, List.set_cons_zero, List.set_cons_succ]
            iterate 2
              refine w_pure (by kernel_rfl) rfl ?_
              apply Exists.intro
              refine And.intro (fun w4 hC hF => ?_) ?_
              (focus (have hcl := hC.cells; dsimp only at hcl; obtain ⟨⟨a0, a1, a2⟩, ⟨y0, y1, y2⟩⟩ := hcl; clear hC hF; unfold gives; go_simp; try with_reducible rfl))
              simp only [Act.put, List.setIfInBounds_toArray, List.set_cons_zero, List.set_cons_succ]
            refine w_end (fun w6 hC hF hG => ?_)
            have hcl := hC.cells
            dsimp only at hcl
            obtain ⟨⟨a0, a1, a2⟩, _⟩ := hcl
            clear hF hG
            go_wp2_with fail
            refine (hM1 _ _ w6 hC).mono ?_
            rintro e w7 ⟨rfl, hb7⟩
            have hC7 := PInv.stays _ _ _ _ _ _ hC hb7
            clear a0 a1 a2
            have hcl := hC7.cells
            dsimp only at hcl
            obtain ⟨⟨a0, a1, a2⟩, _⟩ := hcl
            cases m1
            · go_wp2
              go_ret
              exact ⟨rfl, hC7.bel⟩
            · go_wp2
              go_ret
              exact ⟨rfl, hC7.bel⟩
          · have hyo : capO s fr ⟨true, t1, l1⟩ = ⟨true, t1, ⟨s, fr, t1⟩ :: l1⟩ := rfl
            have hP := hP0 _ hyo
            rw [hyo] at hown ⊢
            obtain ⟨g, off, rfl, _⟩ := hown.form (by simp)
            obtain ⟨n, hn⟩ : ∃ n, (⟨s, fr, t1⟩ :: l1 : List Cap).length = n := ⟨_, rfl⟩
            have hnp : 0 < n := by rw [← hn]; simp
            have fy' : Out.fits ⟨true, t1, ⟨s, fr, t1⟩ :: l1⟩ := ⟨fx.1, by show l1.length + 1 ≤ _; unfold maxLen; omega, fun c hc => by
              rcases List.mem_cons.1 hc with rfl | hc
              · exact ⟨by unfold maxLen; exact hs, hfr, fx.1⟩
              · exact fx.2.2 c hc⟩
            obtain ⟨my, hmy⟩ : ∃ my, mayB ⟨true, t1, ⟨s, fr, t1⟩ :: l1⟩ 4096 = my := ⟨_, rfl⟩
            obtain ⟨nm, hnm⟩ : ∃ nm, nameMay s.data.toList = nm := ⟨_, rfl⟩
            have HY : m1 = true → my = (nm && (decide (0 ≤ fr) && (decide (fr ≤ t1) && decide (fr ≤ f1)))) := fun h => by
              have := cap_may ⟨true, t1, l1⟩ s fr (HM1.out.trans h) rfl (by show l1.length + 1 ≤ _; omega)
              rw [hyo, hmy, hnm, HF1.out] at this
              exact this
            have HY2 := Lib.hid HY
            have hNM : ∀ w4, Calls Tryd.prog 22 #[.string s] w4 (fun e w' => e = .returned (.bool nm) ∧ w4 = w') := fun w4 => by
              have hcall := may_any s w4 (by unfold maxLen; exact hs)
              rw [hnm] at hcall
              exact hcall
            have hMy : ∀ w4, PInv w ⟨⟨true, t1, l1⟩, A1, c1⟩ ⟨⟨true, t1, ⟨s, fr, t1⟩ :: l1⟩, some ⟨g, off, none⟩, cy⟩ w5.heap.size w4 → Calls Tryd.prog 13 #[.agg #[.bool true, .int .i64 t1, .slice (some ⟨g, off, none⟩) n cy], .int .i64 4096] w4 (fun e w' => e = .returned (.bool my) ∧ Below w4.heap.size w4 w') := fun w4 hC => by
              have hcall := spanMay_any w4 ⟨⟨true, t1, ⟨s, fr, t1⟩ :: l1⟩, some ⟨g, off, none⟩, cy⟩ 4096 (Reads.more hC.rd (Nat.le_of_lt hC.y.lt)) fy'
              rw [hmy] at hcall
              simp only [OutV.val] at hcall
              rw [hn] at hcall
              exact hcall
            clear hP0 hyo hown hb5 hL HY hmy hnm fy' HM1 HF1
            have HN := Lib.hid hn
            rw [hn]
            clear hn
            go_upto_region 9 with fail
            refine region_free (PInv w _ _ w5.heap.size) (fun _ => none) (by kernel_rfl) (by decide +kernel) (by decide +kernel) (by decide +kernel) (fun k s hs => by cases hs) (PInv.stays _ _ _ _) (by simpa only [OutV.cells, HN.out] using hP.drew) ?_
            simp only [idx, Nat.reduceAdd]
            iterate 28
              refine w_pure (by kernel_rfl) rfl ?_
              apply Exists.intro
              refine And.intro (fun w4 hC hF => ?_) ?_
              (focus (have hcl := hC.cells; have hc0 := hC.cap0; dsimp only at hcl hc0; rw [HN.out] at hcl; obtain ⟨⟨a0, a1, a2⟩, ⟨y0, y1, y2⟩⟩ := hcl; obtain ⟨z0, z1, z2⟩ := hc0; clear hC hF; unfold gives; go_simp; try with_reducible rfl))
              simp only [Act.put, List.setIfInBounds_toArray, List.set_cons_zero, List.set_cons_succ]
            refine w_end (fun w6 hC hF hG => ?_)
            clear hF hG
            have hcl := hC.cells
            dsimp only at hcl
            rw [HN.out] at hcl
            obtain ⟨⟨a0, a1, a2⟩, ⟨y0, y1, y2⟩⟩ := hcl
            go_upto_region 11 with fail
            go_cut [13] (fun v wx => v = .bool (m1 && (nm && (decide (0 ≤ fr) && (decide (fr ≤ t1) && decide (fr ≤ f1))))) ∧ PInv w ⟨⟨true, t1, l1⟩, A1, c1⟩ ⟨⟨true, t1, ⟨s, fr, t1⟩ :: l1⟩, some ⟨g, off, none⟩, cy⟩ w5.heap.size wx)
            case first =>
              go_wp2_with fail
              refine (hM1 _ _ w6 hC).mono ?_
              rintro e w7 ⟨rfl, hb7⟩
              have hC7 := PInv.stays _ _ _ _ _ _ hC hb7
              clear a0 a1 a2 y0 y1 y2 hC hP hM1 hMy
              have hcl := hC7.cells
              dsimp only at hcl
              rw [HN.out] at hcl
              obtain ⟨⟨a0, a1, a2⟩, ⟨y0, y1, y2⟩⟩ := hcl
              cases m1
              · go_wp2
                go_meet
                case rel => exact ⟨rfl, hC7⟩
              · go_wp2_with fail
                refine (hNM w7).mono ?_
                rintro e w8 ⟨rfl, rfl⟩
                cases nm
                · go_wp2
                  go_meet
                  case rel => exact ⟨rfl, hC7⟩
                · by_cases g1 : 0 ≤ fr
                  · by_cases g2 : fr ≤ t1
                    · go_wp2_with fail
                      refine (hF1 _ _ w7 hC7).mono ?_
                      rintro e w8 ⟨rfl, hb8⟩
                      have hC8 := PInv.stays _ _ _ _ _ _ hC7 hb8
                      go_wp2
                      go_meet
                      case rel => exact ⟨by simp [g1, g2], hC8⟩
                    · go_wp2
                      go_meet
                      case rel => exact ⟨by simp; omega, hC7⟩
                  · go_wp2
                    go_meet
                    case rel => exact ⟨by simp; omega, hC7⟩
            case rest =>
              clear a0 a1 a2 y0 y1 y2 hC hF1 hNM hP
              obtain ⟨rfl, hC⟩ := hcut
              have hcl := hC.cells
              dsimp only at hcl
              rw [HN.out] at hcl
              obtain ⟨⟨a0, a1, a2⟩, ⟨y0, y1, y2⟩⟩ := hcl
              obtain ⟨b13, hb13⟩ : ∃ b, (m1 && (nm && (decide (0 ≤ fr) && (decide (fr ≤ t1) && decide (fr ≤ f1))))) = b := ⟨_, rfl⟩
              rw [hb13]
              have HB := Lib.hid hb13
              clear hb13
              go_wp2_with fail
              refine (hM1 _ _ wc hC).mono ?_
              rintro e w7 ⟨rfl, hb7⟩
              have hC7 := PInv.stays _ _ _ _ _ _ hC hb7
              clear a0 a1 a2 y0 y1 y2 hC hM1
              have hcl := hC7.cells
              dsimp only at hcl
              rw [HN.out] at hcl
              obtain ⟨⟨a0, a1, a2⟩, ⟨y0, y1, y2⟩⟩ := hcl
              cases m1
              · go_wp2
                go_ret
                exact ⟨rfl, hC7.bel⟩
              · go_wp2_with fail
                refine (hMy w7 hC7).mono ?_
                rintro e w8 ⟨rfl, hb8⟩
                have hC8 := PInv.stays _ _ _ _ _ _ hC7 hb8
                clear a0 a1 a2 y0 y1 y2 hMy hC7
                obtain rfl : my = b13 := by rw [← HB.out]; exact (HY2.out (by simp)).trans (Bool.true_and _).symm
                go_wp2
                go_ret
                exact ⟨ret_bool (by simp), hC8.bel⟩
end Go.Proofs.YtnmnbefbadhkgaaDoor
