/-
  span.Join, span.Cap: their walks.
-/
import Derived.Test.YtnmnbefbadhkgaaDoorConcat
import Derived.Test.YtnmnbefbadhkgaaDoorInsert
import Derived.Test.YtnmnbefbadhkgaaDoorSpanC
import Derived.Deep.RegionHeld3
namespace Go.Proofs.YtnmnbefbadhkgaaDoor
open Go Go.RowKit

def joinO (a b : Out) : Out := if a.ok && b.ok then ⟨true, b.to, a.caps ++ b.caps⟩ else ⟨false, 0, []⟩
def capO (name : ByteArray) (fr : Int) (o : Out) : Out := if o.ok then ⟨true, o.to, ⟨name, fr, o.to⟩ :: o.caps⟩ else ⟨false, 0, []⟩
/-- What is told: an outcome whose captures are the call's own. -/
def OutSays (w : World) (o : Out) (e : Ending) (w' : World) : Prop :=
  ∃ A' cap', e = .returned (.agg #[.bool o.ok, .int .i64 o.to, .slice A' o.caps.length cap']) ∧ Owns w' w.heap.size 45 3 A' o.caps.length cap' (capCells o.caps) ∧ Below w.heap.size w w'

structure JInv (w : World) (v0 v1 v2 u0 u1 u2 r0 r1 r2 : Value) (w' : World) : Prop where
  a : Blk w' w.heap.size 24 #[v0, v1, v2]
  b : Blk w' (w.heap.size + 1) 24 #[u0, u1, u2]
  r : Blk w' (w.heap.size + 1 + 1) 24 #[r0, r1, r2]
  bel : Below w.heap.size w w'
  z : w.heap.size + 3 ≤ w'.heap.size
section
variable {w : World} {v0 v1 v2 u0 u1 u2 r0 r1 r2 : Value} {w' w'' : World}
theorem JInv.below (h : JInv w v0 v1 v2 u0 u1 u2 r0 r1 r2 w') (hb : Below w'.heap.size w' w'') : JInv w v0 v1 v2 u0 u1 u2 r0 r1 r2 w'' :=
  ⟨h.a.below hb h.a.lt, h.b.below hb h.b.lt, h.r.below hb h.r.lt, h.bel.trans (hb.mono h.bel.size), Nat.le_trans h.z hb.size⟩
theorem JInv.drew (h : JInv w v0 v1 v2 u0 u1 u2 r0 r1 r2 w') : JInv w v0 v1 v2 u0 u1 u2 r0 r1 r2 w'.drew := h.below (Below.refl _ _).drew
theorem JInv.alloc (h : JInv w v0 v1 v2 u0 u1 u2 r0 r1 r2 w') (o : Obj) : JInv w v0 v1 v2 u0 u1 u2 r0 r1 r2 (w'.alloc o) := h.below ((Below.refl _ _).alloc (Nat.le_refl _) o)
theorem JInv.cells (h : JInv w v0 v1 v2 u0 u1 u2 r0 r1 r2 w') : w'.cell? ⟨w.heap.size, 2, none⟩ = some v2 ∧ w'.cell? ⟨w.heap.size + 1, 1, none⟩ = some u1 ∧ w'.cell? ⟨w.heap.size + 1, 2, none⟩ = some u2 :=
  ⟨h.a.three.1.2.2, h.b.three.1.2.1, h.b.three.1.2.2⟩
theorem JInv.st3 (h : JInv w v0 v1 v2 u0 u1 u2 r0 r1 r2 w') (a b c : Value) : JInv w v0 v1 v2 u0 u1 u2 a b c (((w'.setCell ⟨w.heap.size + 1 + 1, 0, none⟩ a).setCell ⟨w.heap.size + 1 + 1, 1, none⟩ b).setCell ⟨w.heap.size + 1 + 1, 2, none⟩ c) :=
  ⟨((h.a.far (by simp; omega) a).far (by simp; omega) b).far (by simp; omega) c, ((h.b.far (by simp) a).far (by simp) b).far (by simp) c, by simpa using ((h.r.set_ 0 a).set_ 1 b).set_ 2 c, ((h.bel.setCell (p := ⟨w.heap.size + 1 + 1, 0, none⟩) (by simp; omega) a).setCell (p := ⟨w.heap.size + 1 + 1, 1, none⟩) (by simp; omega) b).setCell (p := ⟨w.heap.size + 1 + 1, 2, none⟩) (by simp; omega) c, by simpa using h.z⟩
end
theorem JInv.start (w : World) (v0 v1 v2 u0 u1 u2 r0 r1 r2 : Value) : JInv w v0 v1 v2 u0 u1 u2 r0 r1 r2 (((w.alloc (.cells #[v0, v1, v2] 24)).alloc (.cells #[u0, u1, u2] 24)).alloc (.cells #[r0, r1, r2] 24)) := by
  refine ⟨((Blk.new_ w _ _).alloc _).alloc _, ?_, ?_, (((Below.refl _ _).alloc (Nat.le_refl _) _).alloc (by simp) _).alloc (by simp; omega) _, by simp⟩
  · have := (Blk.new_ (w.alloc (.cells #[v0, v1, v2] 24)) 24 #[u0, u1, u2]).alloc (.cells #[r0, r1, r2] 24)
    simpa using this
  · have := Blk.new_ ((w.alloc (.cells #[v0, v1, v2] 24)).alloc (.cells #[u0, u1, u2] 24)) 24 #[r0, r1, r2]
    simpa using this

theorem reads_new (w : World) (t : TypeId) (size n : Nat) (cs : List Value) (hl : cs.length = n * size) : Reads (w.alloc (.cells cs.toArray t)) (w.heap.size + 1) size (some ⟨w.heap.size, 0, none⟩) n cs :=
  ⟨hl, fun _ => ⟨w.heap.size, 0, rfl, by omega, fun j u hu => by rw [cell_of_row _ w.heap.size (0 + j) cs.toArray t (0, 0) (heap_alloc_new w _), Nat.zero_add]; simpa using hu⟩⟩
theorem Below.alloc3 (w : World) (a b c : Obj) : Below w.heap.size w (((w.alloc a).alloc b).alloc c) := (((Below.refl _ _).alloc (Nat.le_refl _) _).alloc (by simp) _).alloc (by simp; omega) _

set_option maxRecDepth 100000 in
set_option maxHeartbeats 2000000 in
theorem join_any (w : World) (x y : OutV) (hx : x.rd w w.heap.size) (hy : y.rd w w.heap.size) (hn : (x.o.caps.length + y.o.caps.length) * 32 ≤ 140737488355328) :
    Calls Tryd.prog 19 #[x.val, y.val] w (OutSays w (joinO x.o y.o)) := by
  obtain ⟨⟨ok1, t1, l1⟩, A1, c1⟩ := x
  obtain ⟨⟨ok2, t2, l2⟩, A2, c2⟩ := y
  simp only [OutV.rd, OutV.val] at *
  have h0 := JInv.start w (.bool ok1) (.int .i64 t1) (.slice A1 l1.length c1) (.bool ok2) (.int .i64 t2) (.slice A2 l2.length c2) (.bool false) (.int .i64 0) (.slice none 0 0)
  go_enter Tryd.func19, Tryd.ntmps19
  by_cases hok : (ok1 && ok2) = true
  · obtain ⟨rfl, rfl⟩ : ok1 = true ∧ ok2 = true := by simpa using hok
    clear hok
    have hR := (reads_new (((w.alloc (.cells #[.bool true, .int .i64 t1, .slice A1 l1.length c1] 24)).alloc (.cells #[.bool true, .int .i64 t2, .slice A2 l2.length c2] 24)).alloc (.cells #[.bool false, .int .i64 0, .slice none 0 0] 24)) 22 1 2 [.slice A1 l1.length c1, .slice A2 l2.length c2] rfl).drew
    simp only [World.size_alloc] at hR
    have hbl := ((Below.alloc3 w (.cells #[.bool true, .int .i64 t1, .slice A1 l1.length c1] 24) (.cells #[.bool true, .int .i64 t2, .slice A2 l2.length c2] 24) (.cells #[.bool false, .int .i64 0, .slice none 0 0] 24)).alloc (by simp; omega) (.cells #[.slice A1 l1.length c1, .slice A2 l2.length c2] 22)).drew
    have hx1 := (hx.below hbl).more (B' := w.heap.size + 1 + 1 + 1 + 1) (by omega)
    have hy1 := (hy.below hbl).more (B' := w.heap.size + 1 + 1 + 1 + 1) (by omega)
    have h1 := (h0.alloc (.cells #[.slice A1 l1.length c1, .slice A2 l2.length c2] 22)).drew
    have hc := concat_any _ (w.heap.size + 1 + 1 + 1 + 1) _ 2 [⟨l1, A1, c1⟩, ⟨l2, A2, c2⟩] hR (by simp) (by
      intro z hz
      simp only [List.mem_cons, List.mem_nil_iff, or_false] at hz
      rcases hz with rfl | rfl
      · exact hx1
      · exact hy1) (by simp [maxLen]) (by simp [allCaps]; exact hn)
    have hH := Lib.hid hc
    have HJ := Lib.hid h1
    clear hc hR hbl hx1 hy1 hx hy h1
    go_wp2
    have h1 := h0.drew
    go_region_held3 (fun w' => w'.cell? ⟨w.heap.size, 2, none⟩ = some (.slice A1 l1.length c1) ∧ w'.cell? ⟨w.heap.size + 1, 1, none⟩ = some (.int .i64 t2) ∧ w'.cell? ⟨w.heap.size + 1, 2, none⟩ = some (.slice A2 l2.length c2))
      (first | exact JInv.cells (by assumption) | exact JInv.cells (JInv.alloc (by assumption) _) | exact JInv.cells (JInv.st3 (by assumption) _ _ _))
      (first | (go_at_call 39; refine hH.out.mono ?_; rintro e w2 ⟨A', cap', rfl, hown, hb2⟩; have h2 := HJ.out.below hb2; obtain ⟨⟨r0, r1, r2⟩, q0, q1, q2⟩ := h2.r.three; have HO := Lib.hid hown; clear hown))
    go_wp2
    have h3 := h2.st3 (.bool true) (.int .i64 t2) (.slice A' (allCaps [⟨l1, A1, c1⟩, ⟨l2, A2, c2⟩]).length cap')
    obtain ⟨⟨s0, s1, s2⟩, _⟩ := h3.r.three
    have e : allCaps [⟨l1, A1, c1⟩, ⟨l2, A2, c2⟩] = l1 ++ l2 := by simp [allCaps]
    refine bodyPost_ret (v := .agg #[.bool true, .int .i64 t2, .slice A' (allCaps [⟨l1, A1, c1⟩, ⟨l2, A2, c2⟩]).length cap']) (by simp [results, Tryd.results19, go_sem, s0, s1, s2]) rfl ⟨A', cap', by rw [e]; rfl, ?_, h3.bel⟩
    have hO := HO.out
    rw [e] at hO
    have hne : ∀ o, blockOf A' ≠ some (⟨w.heap.size + 1 + 1, o, none⟩ : Addr).block := fun o ee => by have := (hO.lt _ ee).1; simp at this; omega
    rw [e]
    exact (((hO.setCell (hne 0) _).setCell (hne 1) _).setCell (hne 2) _).mono (by simp; omega)
  · have hj : joinO ⟨ok1, t1, l1⟩ ⟨ok2, t2, l2⟩ = ⟨false, 0, []⟩ := by unfold joinO; rw [if_neg hok]
    rw [hj]
    clear hx hy
    cases ok1
    · clear hok
      go_wp2_with fail
      refine (fail_any _).mono ?_
      rintro e w2 ⟨rfl, hb2⟩
      have h2 := h0.below hb2
      obtain ⟨⟨r0, r1, r2⟩, q0, q1, q2⟩ := h2.r.three
      go_wp2
      have h3 := h2.st3 (.bool false) (.int .i64 0) (.slice none 0 0)
      obtain ⟨⟨s0, s1, s2⟩, _⟩ := h3.r.three
      exact bodyPost_ret (v := .agg #[.bool false, .int .i64 0, .slice none 0 0]) (by simp [results, Tryd.results19, go_sem, s0, s1, s2]) rfl ⟨none, 0, rfl, Owns.nil_ _ _ _ _, h3.bel⟩
    · obtain rfl : ok2 = false := by cases ok2 <;> simp_all
      clear hok
      go_wp2_with fail
      refine (fail_any _).mono ?_
      rintro e w2 ⟨rfl, hb2⟩
      have h2 := h0.below hb2
      obtain ⟨⟨r0, r1, r2⟩, q0, q1, q2⟩ := h2.r.three
      go_wp2
      have h3 := h2.st3 (.bool false) (.int .i64 0) (.slice none 0 0)
      obtain ⟨⟨s0, s1, s2⟩, _⟩ := h3.r.three
      exact bodyPost_ret (v := .agg #[.bool false, .int .i64 0, .slice none 0 0]) (by simp [results, Tryd.results19, go_sem, s0, s1, s2]) rfl ⟨none, 0, rfl, Owns.nil_ _ _ _ _, h3.bel⟩
end Go.Proofs.YtnmnbefbadhkgaaDoor
