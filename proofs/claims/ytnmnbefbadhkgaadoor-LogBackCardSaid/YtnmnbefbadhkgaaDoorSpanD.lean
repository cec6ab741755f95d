/-
  WALKS: slices.Clone of captures, span.Copy, span.Shift.
-/
import Derived.Test.YtnmnbefbadhkgaaDoorSpanC
import Derived.Test.YtnmnbefbadhkgaaDoorSpanM
namespace Go.Proofs.YtnmnbefbadhkgaaDoor
open Go.RowKit

theorem infoCap : (Tryd.prog.info? 45).map (fun i => (i.zero, i.size, i.bytes)) = some (some (.agg #[.string ⟨#[]⟩, .int .i64 0, .int .i64 0]), 3, 32) := by kernel_rfl

/-- What 'Clone' leaves: a slice of the call's own with the same captures. -/
def CloneSays (w : World) (cs : List Cap) (e : Ending) (w' : World) : Prop :=
  ∃ A' cap', e = .returned (.slice A' cs.length cap') ∧ Owns w' w.heap.size 45 3 A' cs.length cap' (capCells cs) ∧ Below w.heap.size w w'

set_option maxRecDepth 100000 in
set_option maxHeartbeats 400000 in
theorem clone_any (w : World) (B : Nat) (A : Option Addr) (c : Nat) (cs : List Cap) (h : Reads w B 3 A cs.length (capCells cs)) (hB : B ≤ w.heap.size) (hn : cs.length * 32 ≤ 140737488355328) :
    Calls Tryd.prog 41 #[.slice A cs.length c] w (CloneSays w cs) := by
  have hnil := fun W a n c => Lib.run_eql_slice_nil (P := Tryd.prog) W 22 45 a n c 0 0 Tryd.underlying22
  cases A with
  | none =>
    have h0 : cs.length = 0 := by
      rcases Nat.eq_zero_or_pos cs.length with h0 | h0
      · exact h0
      · obtain ⟨g, off, e, _⟩ := h.2 h0; cases e
    obtain rfl : cs = [] := List.eq_nil_of_length_eq_zero h0
    go_enter Tryd.func41, Tryd.ntmps41
    go_wp2
    go_ret
    exact ⟨none, 0, rfl, Owns.nil_ _ _ _ _, Below.refl _ _⟩
  | some ad =>
    have hown := Owns.new_ w 45 3 0 #[] (base := w.heap.size) rfl (Nat.zero_le _) (Nat.le_refl _)
    have hsrc := Src.rd (P := Tryd.prog) (tx := 22) (c := c) Tryd.underlying22 (h.alloc hB (.cells #[] 45)) (capCells_one cs)
    go_enter Tryd.func41, Tryd.ntmps41
    go_wp2_with (at_builtin; go_loud (refine wpList_app (w.alloc (.cells #[] 45)) rfl (.tmp 5) (.tmp 6) 22 22 rfl 45 _ 3 32 Tryd.underlying22 infoCap rfl w.heap.size (some ⟨w.heap.size, 0, none⟩) 0 0 [] rfl hown _ cs.length (capCells cs) rfl hsrc ?_ ?_ ?_ ?_; (focus omega); (focus omega); (focus simp); intro A' cap' w1 hown1 hg1 hA1 _))
    rw [show (0 + cs.length) = cs.length from by omega] at *
    go_wp2
    go_ret
    refine ⟨A', cap', rfl, by simpa using hown1, ?_⟩
    exact ((Below.refl _ _).alloc (Nat.le_refl _) _).grown hg1 (by simp) (fun k hk => by cases hk; exact Nat.le_refl _)

theorem spanMay_at (w : World) (B : Nat) (A : Option Addr) (c : Nat) (ok : Bool) (to n : Int) (caps : List Cap) (hr : Reads w B 3 A caps.length (capCells caps)) (hB : B ≤ w.heap.size) (hf : Out.fits ⟨ok, to, caps⟩) :
    Calls Tryd.prog 13 #[.agg #[.bool ok, .int .i64 to, .slice A caps.length c], .int .i64 n] w fun e w' => e = .returned (.bool (mayB ⟨ok, to, caps⟩ n)) ∧ Below w.heap.size w w' :=
  spanMay_any w ⟨⟨ok, to, caps⟩, A, c⟩ n (hr.more hB) hf

theorem below_st3 {w w' : World} (h : Below w.heap.size w w') {g : Nat} (hg : w.heap.size ≤ g) (a b c : Value) : Below w.heap.size w (((w'.setCell ⟨g, 0, none⟩ a).setCell ⟨g, 1, none⟩ b).setCell ⟨g, 2, none⟩ c) :=
  ((h.setCell (p := ⟨g, 0, none⟩) hg a).setCell (p := ⟨g, 1, none⟩) hg b).setCell (p := ⟨g, 2, none⟩) hg c

def failV : Value := .agg #[.bool false, .int .i64 0, .slice none 0 0]

set_option maxRecDepth 100000 in
set_option maxHeartbeats 1000000 in
theorem shift_nomay (w : World) (A : Option Addr) (c : Nat) (ok : Bool) (to by_ : Int) (caps : List Cap) (hr : Reads w w.heap.size 3 A caps.length (capCells caps)) (hf : Out.fits ⟨ok, to, caps⟩) (hm : mayB ⟨ok, to, caps⟩ 4096 = false) :
    Calls Tryd.prog 10 #[.agg #[.bool ok, .int .i64 to, .slice A caps.length c], .int .i64 by_] w fun e w' => e = .returned (.tuple #[failV, .bool false]) ∧ Below w.heap.size w w' := by
  have h1 := (hr.alloc (Nat.le_refl _) (.cells #[.bool ok, .int .i64 to, .slice A caps.length c] 24)).alloc (by simp) (.cells #[.bool false, .int .i64 0, .slice none 0 0] 24)
  have HM := Lib.hid hm
  clear hm
  go_enter Tryd.func10, Tryd.ntmps10
  go_wp2_with fail
  refine (spanMay_at _ w.heap.size A c ok to 4096 caps h1 (by simp; omega) hf).mono ?_
  rintro e w1 ⟨rfl, hb1⟩
  rw [HM.out]
  obtain ⟨hc, hfz⟩ := bcell hb1
  have hz1 : w.heap.size + 1 < w1.heap.size := by have := hb1.size; simp at this; omega
  go_wp2_with fail
  refine (fail_any _).mono ?_
  rintro e w2 ⟨rfl, hb2⟩
  obtain ⟨hc2, hfz2⟩ := bcell hb2
  have hz2 : w.heap.size + 1 < w2.heap.size := by have := hb2.size; omega
  go_wp2
  refine bodyPost_ret (v := .tuple #[failV, .bool false]) (by simp [results, Tryd.results10, go_sem, hc2, hc, hz1, failV]) rfl ⟨rfl, ?_⟩
  exact below_st3 ((((Below.refl _ _).alloc (Nat.le_refl _) _).alloc (by simp) _).trans ((hb1.mono (by simp; omega)).trans (hb2.mono (by omega)))) (by omega) _ _ _

set_option maxRecDepth 100000 in
set_option maxHeartbeats 1000000 in
theorem shift_fail (w : World) (A : Option Addr) (c : Nat) (to by_ : Int) (caps : List Cap) (hr : Reads w w.heap.size 3 A caps.length (capCells caps)) (hf : Out.fits ⟨false, to, caps⟩) (hm : mayB ⟨false, to, caps⟩ 4096 = true) :
    Calls Tryd.prog 10 #[.agg #[.bool false, .int .i64 to, .slice A caps.length c], .int .i64 by_] w fun e w' => e = .returned (.tuple #[failV, .bool true]) ∧ Below w.heap.size w w' := by
  have h1 := (hr.alloc (Nat.le_refl _) (.cells #[.bool false, .int .i64 to, .slice A caps.length c] 24)).alloc (by simp) (.cells #[.bool false, .int .i64 0, .slice none 0 0] 24)
  have HM := Lib.hid hm
  clear hm
  go_enter Tryd.func10, Tryd.ntmps10
  go_wp2_with fail
  refine (spanMay_at _ w.heap.size A c false to 4096 caps h1 (by simp; omega) hf).mono ?_
  rintro e w1 ⟨rfl, hb1⟩
  rw [HM.out]
  obtain ⟨hc, hfz⟩ := bcell hb1
  have hz1 : w.heap.size + 1 < w1.heap.size := by have := hb1.size; simp at this; omega
  go_wp2_with fail
  refine (fail_any _).mono ?_
  rintro e w2 ⟨rfl, hb2⟩
  obtain ⟨hc2, hfz2⟩ := bcell hb2
  have hz2 : w.heap.size + 1 < w2.heap.size := by have := hb2.size; omega
  go_wp2
  refine bodyPost_ret (v := .tuple #[failV, .bool true]) (by simp [results, Tryd.results10, go_sem, hc2, hc, hz1, failV]) rfl ⟨rfl, ?_⟩
  exact below_st3 ((((Below.refl _ _).alloc (Nat.le_refl _) _).alloc (by simp) _).trans ((hb1.mono (by simp; omega)).trans (hb2.mono (by omega)))) (by omega) _ _ _

/-- What 'Copy' leaves. -/
def CopySays (w : World) (ok : Bool) (to : Int) (cs : List Cap) (e : Ending) (w' : World) : Prop :=
  ∃ A' cap', e = .returned (.agg #[.bool ok, .int .i64 to, .slice A' cs.length cap']) ∧ Owns w' w.heap.size 45 3 A' cs.length cap' (capCells cs) ∧ Below w.heap.size w w'

set_option maxRecDepth 100000 in
set_option maxHeartbeats 1000000 in
theorem copy_any (w : World) (B : Nat) (A : Option Addr) (c : Nat) (ok : Bool) (to : Int) (caps : List Cap) (hr : Reads w B 3 A caps.length (capCells caps)) (hB : B ≤ w.heap.size) (hn : caps.length * 32 ≤ 140737488355328) :
    Calls Tryd.prog 32 #[.agg #[.bool ok, .int .i64 to, .slice A caps.length c]] w (CopySays w ok to caps) := by
  have h1 := (hr.alloc hB (.cells #[.bool ok, .int .i64 to, .slice A caps.length c] 24)).alloc (by simp; omega) (.cells #[.bool false, .int .i64 0, .slice none 0 0] 24)
  go_enter Tryd.func32, Tryd.ntmps32
  go_wp2_with fail
  refine (clone_any _ B A c caps h1 (by simp; omega) hn).mono ?_
  rintro e w1 ⟨A', cap', rfl, hown, hb1⟩
  have hown' := hown.mono (base' := w.heap.size + 2) (by simp)
  have hlt := hown'.lt
  obtain ⟨⟨k0, k1, k2⟩, f0, f1, f2⟩ := (((Blk.new_ w 24 #[.bool ok, .int .i64 to, .slice A caps.length c]).alloc (.cells #[.bool false, .int .i64 0, .slice none 0 0] 24)).below hb1 (by simp; omega)).three
  obtain ⟨⟨r0, r1, r2⟩, q0, q1, q2⟩ := ((Blk.new_ (w.alloc (.cells #[.bool ok, .int .i64 to, .slice A caps.length c] 24)) 24 #[.bool false, .int .i64 0, .slice none 0 0]).below hb1 (by simp)).three
  simp only [World.size_alloc] at r0 r1 r2 q0 q1 q2
  have hz1 : w.heap.size + 1 < w1.heap.size := by have := hb1.size; simp at this; omega
  have HO := Lib.hid hown'
  clear hown hown' h1 hr
  go_wp2
  refine bodyPost_ret (v := .agg #[.bool ok, .int .i64 to, .slice A' caps.length cap']) (by simp [results, Tryd.results32, go_sem, r0, r1, r2]) rfl ⟨A', cap', rfl, ?_, ?_⟩
  · have hne : ∀ (k : Nat) (p : Addr), p.block < w.heap.size + 2 → blockOf A' ≠ some p.block := fun k p hp e => by have := (hlt _ e).1; omega
    exact ((((HO.out.setCell (hne 0 _ (by simp)) _).setCell (hne 0 _ (by simp)) _).setCell (hne 0 _ (by simp)) _).setCell (hne 0 _ (by simp)) _).mono (by omega)
  · refine below_st3 (g := w.heap.size + 1) ?_ (by omega) _ _ _
    exact ((((Below.refl _ _).alloc (Nat.le_refl _) _).alloc (by simp) _).trans (hb1.mono (by simp; omega))).setCell (p := ⟨w.heap.size, 2, none⟩) (Nat.le_refl _) _

theorem min_if (a b : Int) : min a b = if b < a then b else a := by split <;> omega

/-- The state at the head of Shift's first loop. -/
def LeastRel (w wr : World) (v0 v1 v2 : Value) (to : Int) (cs : List Cap) (least i : Value) : Prop :=
  ∃ k l, i = .int .i64 (k : Nat) ∧ least = .int .i64 l ∧ k ≤ cs.length ∧ leastOf to cs = leastOf l (cs.drop k) ∧ Below w.heap.size w wr ∧ w.heap.size + 1 < wr.heap.size ∧
    Blk wr w.heap.size 24 #[v0, v1, v2] ∧ Blk wr (w.heap.size + 1) 24 #[.bool false, .int .i64 0, .slice none 0 0]

set_option maxRecDepth 100000 in
set_option maxHeartbeats 1000000 in
theorem shift_far (w : World) (A : Option Addr) (c : Nat) (to by_ : Int) (caps : List Cap) (hr : Reads w w.heap.size 3 A caps.length (capCells caps)) (hf : Out.fits ⟨true, to, caps⟩) (hm : Good ⟨true, to, caps⟩ 4096)
    (hfar : by_ < -(leastOf to caps) ∨ 4096 < to + by_) :
    Calls Tryd.prog 10 #[.agg #[.bool true, .int .i64 to, .slice A caps.length c], .int .i64 by_] w fun e w' => e = .returned (.tuple #[failV, .bool false]) ∧ Below w.heap.size w w' := by
  have h1 := (hr.alloc (Nat.le_refl _) (.cells #[.bool true, .int .i64 to, .slice A caps.length c] 24)).alloc (by simp) (.cells #[.bool false, .int .i64 0, .slice none 0 0] 24)
  have HM := Lib.hid ((good_iff _ _ rfl).2 hm)
  have hl0 := hm.least.1
  have hl1 := hm.least.2
  have ht0 := hm.t0
  have ht1 := hm.t1
  have hcnt := hm.cnt
  dsimp only at hl0 hl1 ht0 ht1 hcnt
  go_enter Tryd.func10, Tryd.ntmps10
  go_wp2_with fail
  refine (spanMay_at _ w.heap.size A c true to 4096 caps h1 (by simp; omega) hf).mono ?_
  rintro e w1 ⟨rfl, hb1⟩
  rw [HM.out]
  have bk0 := ((Blk.new_ w 24 #[.bool true, .int .i64 to, .slice A caps.length c]).alloc (.cells #[.bool false, .int .i64 0, .slice none 0 0] 24)).below hb1 (by simp; omega)
  have bk1 := (Blk.new_ (w.alloc (.cells #[.bool true, .int .i64 to, .slice A caps.length c] 24)) 24 #[.bool false, .int .i64 0, .slice none 0 0]).below hb1 (by simp)
  rw [World.size_alloc] at bk1
  have hz1 : w.heap.size + 1 < w1.heap.size := by have := hb1.size; simp at this; omega
  have hbw : Below w.heap.size w w1 := (((Below.refl _ _).alloc (Nat.le_refl _) _).alloc (by simp) _).trans (hb1.mono (by simp; omega))
  obtain ⟨⟨k0, k1, k2⟩, f0, f1, f2⟩ := bk0.three
  clear h1 hb1
  go_wp2
  go_loopw [6, 24] (fun l i wr => LeastRel w wr (.bool true) (.int .i64 to) (.slice A caps.length c) to caps l i) (fun _ i _ => caps.length - (intOf i).toNat)
  case atStart => exact ⟨0, to, rfl, rfl, by omega, rfl, hbw, hz1, bk0, bk1⟩
  case round =>
    obtain ⟨k, l, rfl, rfl, hk, hle, hb, hz, b0, b1⟩ := hrel
    obtain ⟨⟨m0, m1, m2⟩, n0, n1, n2⟩ := b0.three
    obtain ⟨⟨r0, r1, r2⟩, q0, q1, q2⟩ := b1.three
    clear k0 k1 k2 f0 f1 f2 bk0 bk1
    by_cases hkn : k < caps.length
    · obtain ⟨g, off, rfl, hg1, c0, c1, c2⟩ := hr.cap hkn
      rw [drop_cons hkn] at hle
      obtain ⟨x, hx⟩ : ∃ x, caps[k] = x := ⟨_, rfl⟩
      rw [hx] at c0 c1 c2 hle
      have e0 := (hb.cell (p := ⟨g, off + k * 3, none⟩) hg1).trans c0
      have e1 := (hb.cell (p := ⟨g, off + k * 3 + 1, none⟩) hg1).trans c1
      have e2 := (hb.cell (p := ⟨g, off + k * 3 + 2, none⟩) hg1).trans c2
      have HE := Lib.hid hle
      clear hle hx c0 c1 c2
      go_wp2
      go_roundw
      case rel => exact ⟨k + 1, _, by go_num, rfl, by omega, by rw [HE.out]; show leastOf (min l x.fr) _ = _; rw [min_if], hb.alloc (by omega) _, by simp; omega, b0.alloc _, b1.alloc _⟩
      case measure => simp [intOf]; omega
    · obtain rfl : k = caps.length := by omega
      rw [List.drop_length] at hle
      obtain rfl : l = leastOf to caps := hle.symm
      clear hle
      by_cases hf1 : by_ < -(leastOf to caps)
      · clear hfar
        go_wp2_with fail
        refine (fail_any _).mono ?_
        rintro e w2 ⟨rfl, hb2⟩
        obtain ⟨⟨s0, s1, s2⟩, p0, p1, p2⟩ := (b1.below hb2 hz).three
        have hz2 : w.heap.size + 1 < w2.heap.size := by have := hb2.size; omega
        go_wp2
        refine bodyPost_ret (v := .tuple #[failV, .bool false]) (by simp [results, Tryd.results10, go_sem, s0, s1, s2, failV]) rfl ⟨rfl, ?_⟩
        exact below_st3 (hb.trans (hb2.mono (by omega))) (by omega) _ _ _
      · have hf2 : 4096 - to < by_ := by omega
        clear hfar
        go_wp2_with fail
        refine (fail_any _).mono ?_
        rintro e w2 ⟨rfl, hb2⟩
        obtain ⟨⟨s0, s1, s2⟩, p0, p1, p2⟩ := (b1.below hb2 hz).three
        have hz2 : w.heap.size + 1 < w2.heap.size := by have := hb2.size; omega
        go_wp2
        refine bodyPost_ret (v := .tuple #[failV, .bool false]) (by simp [results, Tryd.results10, go_sem, s0, s1, s2, failV]) rfl ⟨rfl, ?_⟩
        exact below_st3 (hb.trans (hb2.mono (by omega))) (by omega) _ _ _
end Go.Proofs.YtnmnbefbadhkgaaDoor
