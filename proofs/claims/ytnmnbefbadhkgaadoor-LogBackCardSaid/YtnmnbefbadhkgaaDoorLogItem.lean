/-
  WALKS: (*log.reader).item, log.Decode.
-/
import Derived.Test.YtnmnbefbadhkgaaDoorLogNum
import Derived.Test.YtnmnbefbadhkgaaDoorLogPut
import Derived.Test.YtnmnbefbadhkgaaDoorSpanB
import Derived.Deep.RegionHeld3
import Derived.Deep.RegionLaw
import Derived.Deep.Cut
import Derived.Outline
namespace Go.Proofs.YtnmnbefbadhkgaaDoor
open Go Go.RowKit

/-- What holds while an item is read: its box, the reader. -/
structure IInv (w : World) (g I : Nat) (cs : Array Value) (r : Rdr) (w' : World) : Prop where
  i : Blk w' I 57 cs
  r : RdrAt w' g r
  gr : w.grownBy w' (some g)
  z : w.heap.size ≤ I
section
variable {w w' w'' : World} {g I : Nat} {cs : Array Value} {r r' : Rdr}
theorem RdrAt.far (h : RdrAt w g r) {p : Addr} (hp : g ≠ p.block) (u : Value) : RdrAt (w.setCell p u) g r := by
  obtain ⟨s, h1, h2, h3⟩ := h
  exact ⟨s, h1, h2, h3.far hp u⟩
theorem RdrAt.below (h : RdrAt w g r) (hb : Below w.heap.size w w') : RdrAt w' g r := by
  obtain ⟨s, h1, h2, h3⟩ := h
  exact ⟨s, h1, h2, h3.below hb h3.lt⟩
theorem IInv.set_ (h : IInv w g I cs r w') (hg : g < w.heap.size) (i : Nat) (u : Value) : IInv w g I (cs.setIfInBounds i u) r (w'.setCell ⟨I, i, none⟩ u) :=
  ⟨h.i.set_ i u, h.r.far (by have := h.z; simp; omega) u, ⟨h.gr.os, h.gr.tape, h.gr.output, by simpa [World.setCell] using h.gr.size, fun k hk hne => by
    rw [Below.heap_setCell w' _ u k (by have := h.z; simp; omega)]
    exact h.gr.block k hk hne⟩, h.z⟩
theorem grownBy.trans_ {row : Option Nat} (h : w.grownBy w' row) (h' : w'.grownBy w'' row) : w.grownBy w'' row :=
  ⟨h'.os.trans h.os, h'.tape.trans h.tape, h'.output.trans h.output, Nat.le_trans h.size h'.size, fun k hk hne => (h'.block k (Nat.lt_of_lt_of_le hk h.size) hne).trans (h.block k hk hne)⟩
theorem IInv.num (h : IInv w g I cs r w') (hg : g < w.heap.size) (hr : RdrAt w'' g r') (hg' : w'.grownBy w'' (some g)) : IInv w g I cs r' w'' :=
  ⟨h.i.grown hg' (fun e => by cases e; have := h.z; omega), hr, grownBy.trans_ h.gr hg', h.z⟩
theorem grownBy.ofBelow {row : Option Nat} (hb : Below w.heap.size w w') : w.grownBy w' row := ⟨hb.os, hb.tape, hb.output, hb.size, fun k hk _ => hb.block k hk⟩
theorem IInv.below (h : IInv w g I cs r w') (hb : Below w'.heap.size w' w'') : IInv w g I cs r w'' :=
  ⟨h.i.below hb h.i.lt, h.r.below hb, grownBy.trans_ h.gr (grownBy.ofBelow hb), h.z⟩
theorem IInv.drew (h : IInv w g I cs r w') : IInv w g I cs r w'.drew := h.below (Below.refl _ _).drew
theorem IInv.ne_ (h : IInv w g I cs r w') {A : Option Addr} {n cap : Nat} {xs : List Value} (hA : Owns w' w.heap.size 3 1 A n cap xs) : blockOf A ≠ some I := by
  intro e
  cases A with
  | none => cases e
  | some ad =>
    obtain ⟨g', off, rfl, _⟩ := hA.2.2.2.2 _ rfl
    cases e
    exact hA.ne_ h.i (by decide) rfl
theorem IInv.grownA (h : IInv w g I cs r w') (hg : g < w.heap.size) {A : Option Addr} {n cap : Nat} {xs : List Value} (hA : Owns w' w.heap.size 3 1 A n cap xs) (hg' : w'.grownBy w'' (blockOf A)) : IInv w g I cs r w'' := by
  have hlt : ∀ k, k < w.heap.size → some k ≠ blockOf A := fun k hk e => by have := (hA.lt k e.symm).1; omega
  obtain ⟨s, h1, h2, h3⟩ := h.r
  exact ⟨h.i.grown hg' (fun e => h.ne_ hA e.symm), ⟨s, h1, h2, h3.grown hg' (hlt g hg)⟩, ⟨hg'.os.trans h.gr.os, hg'.tape.trans h.gr.tape, hg'.output.trans h.gr.output, Nat.le_trans h.gr.size hg'.size, fun k hk hne => (hg'.block k (Nat.lt_of_lt_of_le hk h.gr.size) (hlt k hk)).trans (h.gr.block k hk hne)⟩, h.z⟩
theorem IInv.cell4 {v0 v1 v2 v3 v4 v5 : Value} (h : IInv w g I #[v0, v1, v2, v3, v4, v5] r w') : w'.cell? ⟨I, 4, none⟩ = some v4 := h.i.cell 4
end

theorem nums_snoc (most : Nat) : ∀ (n : Nat) (r : Rdr), nums most (n + 1) r = ((nums most n r).1 ++ [(num most (nums most n r).2).1], (num most (nums most n r).2).2)
  | 0, r => by simp [nums]
  | n + 1, r => by
    rw [nums, nums_snoc most n]
    simp [nums]
theorem nums_length (most : Nat) : ∀ (n : Nat) (r : Rdr), (nums most n r).1.length = n
  | 0, r => by simp [nums]
  | n + 1, r => by simp [nums, nums_length most n]

/-- What 'item' tells. -/
def ItemSays (w : World) (g : Nat) (r : Rdr) (e : Ending) (w' : World) : Prop :=
  ∃ v : ItmV, e = .returned v.val ∧ v.x = (readItem r).1 ∧ RdrAt w' g (readItem r).2 ∧ w.grownBy w' (some g) ∧ v.rd w' w'.heap.size ∧ ∀ b, blockOf v.A = some b → w.heap.size ≤ b ∧ b < w'.heap.size

set_option maxRecDepth 100000 in
set_option maxHeartbeats 4000000 in
theorem item_any (w : World) (g : Nat) (r : Rdr) (h : RdrAt w g r) :
    Calls Tryd.prog 51 #[.pointer (some ⟨g, 0, none⟩)] w (ItemSays w g r) := by
  have hg := h.lt
  have h0 : IInv w g w.heap.size #[.bool false, .int .u8 0, .int .u8 0, .int .i64 0, .slice none 0 0, .int .i64 0] r (w.alloc (.cells #[.bool false, .int .u8 0, .int .u8 0, .int .i64 0, .slice none 0 0, .int .i64 0] 57)) :=
    ⟨Blk.new_ _ _ _, h.below ((Below.refl _ _).alloc (Nat.le_refl _) _), grownBy.ofBelow ((Below.refl _ _).alloc (Nat.le_refl _) _), Nat.le_refl _⟩
  go_enter Tryd.func51, Tryd.ntmps51
  go_wp2_with fail
  refine (num_any _ g r 255 h0.r (by omega) 255 rfl).mono ?_
  rintro e w1 ⟨n1, r1, hn1, rfl, hr1, hg1⟩
  have h1 := h0.num hg hr1 hg1
  have hle : n1 ≤ 255 := by have := num_le 255 r; rw [hn1] at this; exact this
  obtain ⟨I, hI⟩ : ∃ I, w.heap.size = I := ⟨_, rfl⟩
  have HI := Lib.hid hI
  have H1 := Lib.hid h1
  have HN1 := Lib.hid hn1
  have hgI : g ≠ I := by omega
  rw [hI] at h1 ⊢
  have i0 : w1.cell? ⟨I, 0, none⟩ = some (.bool false) := h1.i.cell 0
  have i1 : w1.cell? ⟨I, 1, none⟩ = some (.int .u8 0) := h1.i.cell 1
  have i2 : w1.cell? ⟨I, 2, none⟩ = some (.int .u8 0) := h1.i.cell 2
  have i3 : w1.cell? ⟨I, 3, none⟩ = some (.int .i64 0) := h1.i.cell 3
  have i4 : w1.cell? ⟨I, 4, none⟩ = some (.slice none 0 0) := h1.i.cell 4
  have i5 : w1.cell? ⟨I, 5, none⟩ = some (.int .i64 0) := h1.i.cell 5
  have q0 := h1.i.frozen 0
  have q1 := h1.i.frozen 1
  have q2 := h1.i.frozen 2
  have q3 := h1.i.frozen 3
  have q4 := h1.i.frozen 4
  have q5 := h1.i.frozen 5
  clear h0 h1 hr1 hg1 hn1 hI h
  by_cases hz : n1 = 0
  · have hzb : ((n1 : Int) == 0) = true := by simp [hz]
    have HZ := Lib.hid hz
    clear hz
    have H2 := H1.out
    rw [HI.out] at H2
    have H3 := ((((((H2.set_ hg 1 (.int .u8 n1)).set_ hg 0 (.bool true)).set_ hg 1 (.int .u8 0)).set_ hg 2 (.int .u8 0)).set_ hg 3 (.int .i64 0)).set_ hg 4 (.slice none 0 0)).set_ hg 5 (.int .i64 0)
    have HS : Hid (readItem r = (⟨true, Stp.zero⟩, r1)) := by
      show readItem r = _
      unfold readItem
      simp only [HN1.out, HZ.out, if_true]
    go_wp2
    generalize (((((((w1.setCell ⟨I, 1, none⟩ (.int .u8 n1)).setCell ⟨I, 0, none⟩ (.bool true)).setCell ⟨I, 1, none⟩ (.int .u8 0)).setCell ⟨I, 2, none⟩ (.int .u8 0)).setCell ⟨I, 3, none⟩ (.int .i64 0)).setCell ⟨I, 4, none⟩ (.slice none 0 0)).setCell ⟨I, 5, none⟩ (.int .i64 0)) = w2 at H3 ⊢
    have hB : Blk w2 I 57 #[.bool true, .int .u8 0, .int .u8 0, .int .i64 0, .slice none 0 0, .int .i64 0] := by simpa using H3.i
    have z0 : w2.cell? ⟨I, 0, none⟩ = some (.bool true) := hB.cell 0
    have z1 : w2.cell? ⟨I, 1, none⟩ = some (.int .u8 0) := hB.cell 1
    have z2 : w2.cell? ⟨I, 2, none⟩ = some (.int .u8 0) := hB.cell 2
    have z3 : w2.cell? ⟨I, 3, none⟩ = some (.int .i64 0) := hB.cell 3
    have z4 : w2.cell? ⟨I, 4, none⟩ = some (.slice none 0 0) := hB.cell 4
    have z5 : w2.cell? ⟨I, 5, none⟩ = some (.int .i64 0) := hB.cell 5
    refine bodyPost_ret (v := .agg #[.bool true, .int .u8 0, .int .u8 0, .int .i64 0, .slice none 0 0, .int .i64 0]) (by simp [results, Tryd.results51, go_sem, z0, z1, z2, z3, z4, z5]) rfl ⟨⟨⟨true, Stp.zero⟩, none, 0⟩, rfl, by rw [HS.out], by rw [HS.out]; exact H3.r, H3.gr, ⟨by simp [intsV, Stp.zero], fun h => absurd h (by simp [Stp.zero])⟩, fun b hb => by cases hb⟩
  · have hzb : ((n1 : Int) == 0) = false := by simp; omega
    have H2 := H1.out
    rw [HI.out] at H2
    have H3 := H2.set_ hg 1 (.int .u8 n1)
    simp only [List.setIfInBounds_toArray, List.set_cons_zero, List.set_cons_succ] at H3
    have HH3 := Lib.hid H3
    clear H2 H3 H1
    go_wp2_with fail
    refine (num_any _ g r1 255 HH3.out.r (by omega) 255 rfl).mono ?_
    rintro e w2 ⟨n2, r2, hn2, rfl, hr2, hg2⟩
    have hle2 : n2 ≤ 255 := by have := num_le 255 r1; rw [hn2] at this; exact this
    have HN2 := Lib.hid hn2
    have H4 := Lib.hid (HH3.out.num hg hr2 hg2)
    clear i0 i1 i2 i3 i4 i5 q0 q1 q2 q3 q4 q5 HH3 hr2 hg2 hn2
    go_wp2_with fail
    refine (num_any _ g r2 maxNum H4.out.r (by unfold maxNum; omega) 2147483647 rfl).mono ?_
    rintro e w3 ⟨n3, r3, hn3, rfl, hr3, hg3⟩
    have hle3 : n3 ≤ 2147483647 := by have := num_le maxNum r2; rw [hn3] at this; exact this
    have HN3 := Lib.hid hn3
    have H5 := H4.out.num hg hr3 hg3
    have i2 : w3.cell? ⟨I, 2, none⟩ = some (.int .u8 0) := H5.i.cell 2
    have i3 : w3.cell? ⟨I, 3, none⟩ = some (.int .i64 0) := H5.i.cell 3
    have q2 := H5.i.frozen 2
    have q3 := H5.i.frozen 3
    have H6 := (H5.set_ hg 2 (.int .u8 n2)).set_ hg 3 (.int .i64 n3)
    simp only [List.setIfInBounds_toArray, List.set_cons_zero, List.set_cons_succ] at H6
    have HH6 := Lib.hid H6
    clear H4 H5 H6 hr3 hg3 hn3
    go_wp2_with fail
    refine (num_any _ g r3 32 HH6.out.r (by omega) 32 rfl).mono ?_
    rintro e w4 ⟨n4, r4, hn4, rfl, hr4, hg4⟩
    have hle4 : n4 ≤ 32 := by have := num_le 32 r3; rw [hn4] at this; exact this
    have HN4 := Lib.hid hn4
    have H7 := Lib.hid (HH6.out.num hg hr4 hg4)
    clear HH6 hr4 hg4 hn4 i2 i3 q2 q3
    go_wp2
    go_loopw [24] (fun i wr => ∃ (k : Nat) (A : Option Addr) (cap : Nat), i = .int .i64 k ∧ k ≤ n4 ∧ IInv w g I #[.bool false, .int .u8 n1, .int .u8 n2, .int .i64 n3, .slice A k cap, .int .i64 0] (nums maxNum k r4).2 wr ∧ Owns wr w.heap.size 3 1 A k cap (intsV ((nums maxNum k r4).1.map Int.ofNat))) (fun i _ => n4 - (intOf i).toNat)
    case atStart => exact ⟨0, none, 0, rfl, by omega, H7.out, Owns.nil_ _ _ _ _⟩
    case round =>
      obtain ⟨k, A, cap, rfl, hk, hinv, hown⟩ := hrel
      by_cases hkn : k < n4
      · have HV := Lib.hid hinv
        have HO := Lib.hid hown
        have i4 : wr.cell? ⟨I, 4, none⟩ = some (.slice A k cap) := hinv.i.cell 4
        clear H7 hinv hown
        go_upto_region 7 with fail
        go_region_law (first | (go_simp; go_at_call 50; (with_reducible refine (num_any _ g _ maxNum (IInv.r (IInv.drew HV.out)) ?_ _ ?_).mono ?_); (focus (unfold maxNum; omega)); (focus rfl); rintro e w5 ⟨n5, r5, hn5, rfl, hr5, hg5⟩; have hV5 := (IInv.drew HV.out).num hg hr5 hg5; have i4' : w5.cell? ⟨I, 4, none⟩ = some (.slice A k cap) := hV5.i.cell 4; have hI5 : I < w5.heap.size := hV5.i.lt; have HN5 := Lib.hid hn5; have HO5 := Lib.hid (Owns.grown (HO.out.drew) hg5 (fun b hb e => by cases e; have := (HO.out.lt _ hb).1; omega)); clear hn5 hr5) | (refine step_app_new w5 [.int .i64 n5] 3 rfl (.tmp 28) (.tmp 31) 53 rfl 3 (.int .i64 0) 1 8 Tryd.underlying53 infoInt rfl w.heap.size A k cap (intsV ((nums maxNum k r4).1.map Int.ofNat)) w5.heap.size 1 1 rfl rfl HO5.out rfl rfl ?_ ?_ ?_ ?_ ?_; (focus (intro u hu; simp at hu; subst hu; rfl)); (focus omega); (focus omega); (focus exact (Nat.le_trans (HV.out.gr.size) hg5.size)); intro A6 cap6 w6 hown6 hg6 hA6 hA6n; have hV6 := IInv.grownA (by assumption) hg HO5.out hg6; have f6 := hV6.i.frozen 4; have i6 : w6.cell? ⟨I, 4, none⟩ = some (.slice A k cap) := hV6.i.cell 4; clear hg6 hA6))
        all_goals
          have hn : nums maxNum (k + 1) r4 = ((nums maxNum k r4).1 ++ [n5], r5) := by rw [nums_snoc, HN5.out]
          have HF : Hid (IInv w g I #[.bool false, .int .u8 n1, .int .u8 n2, .int .i64 n3, .slice A6 (k + 1) cap6, .int .i64 0] (nums maxNum (k + 1) r4).2 (w6.setCell ⟨I, 4, none⟩ (.slice A6 (k + 1) cap6))) := by
            have h6 := hV6.set_ hg 4 (.slice A6 (k + 1) cap6)
            rw [hn]
            refine Lib.hid ?_
            simpa only [List.setIfInBounds_toArray, List.set_cons_zero, List.set_cons_succ] using h6
          have HO6 : Hid (Owns (w6.setCell ⟨I, 4, none⟩ (.slice A6 (k + 1) cap6)) w.heap.size 3 1 A6 (k + 1) cap6 (intsV ((nums maxNum (k + 1) r4).1.map Int.ofNat))) := by
            refine Lib.hid ?_
            rw [hn]
            have := hown6.setCell (p := ⟨I, 4, none⟩) (hV6.ne_ hown6) (.slice A6 (k + 1) cap6)
            simpa [intsV] using this
          clear hV5 hV6 hown6 hn
          go_wp2
          go_roundw
          case rel => exact ⟨k + 1, A6, cap6, by go_num, by omega, HF.out, HO6.out⟩
          case measure => simp [intOf]; omega
      · obtain rfl : k = n4 := by omega
        have HV := Lib.hid hinv
        have HO := Lib.hid hown
        clear H7 hinv hown
        go_wp2_with fail
        refine (num_any _ g _ maxNum HV.out.r (by unfold maxNum; omega) 2147483647 rfl).mono ?_
        rintro e w5 ⟨n5, r5, hn5, rfl, hr5, hg5⟩
        have HN5 := Lib.hid hn5
        have H8 := HV.out.num hg hr5 hg5
        have hO5 := Owns.grown HO.out hg5 (fun b hb e => by cases e; have := (HO.out.lt _ hb).1; omega)
        have i0 : w5.cell? ⟨I, 0, none⟩ = some (.bool false) := H8.i.cell 0
        have i1 : w5.cell? ⟨I, 1, none⟩ = some (.int .u8 n1) := H8.i.cell 1
        have i2 : w5.cell? ⟨I, 2, none⟩ = some (.int .u8 n2) := H8.i.cell 2
        have i3 : w5.cell? ⟨I, 3, none⟩ = some (.int .i64 n3) := H8.i.cell 3
        have i4 : w5.cell? ⟨I, 4, none⟩ = some (.slice A k cap) := H8.i.cell 4
        have i5 : w5.cell? ⟨I, 5, none⟩ = some (.int .i64 0) := H8.i.cell 5
        have q0 := H8.i.frozen 0
        have q1 := H8.i.frozen 1
        have q2 := H8.i.frozen 2
        have q3 := H8.i.frozen 3
        have q4 := H8.i.frozen 4
        have q5 := H8.i.frozen 5
        have hne := H8.ne_ hO5
        have H9 := ((((((H8.set_ hg 5 (.int .i64 n5)).set_ hg 0 (.bool false)).set_ hg 1 (.int .u8 n1)).set_ hg 2 (.int .u8 n2)).set_ hg 3 (.int .i64 n3)).set_ hg 4 (.slice A k cap)).set_ hg 5 (.int .i64 n5)
        have hO9 := ((((((hO5.setCell (p := ⟨I, 5, none⟩) hne (.int .i64 n5)).setCell (p := ⟨I, 0, none⟩) hne (.bool false)).setCell (p := ⟨I, 1, none⟩) hne (.int .u8 n1)).setCell (p := ⟨I, 2, none⟩) hne (.int .u8 n2)).setCell (p := ⟨I, 3, none⟩) hne (.int .i64 n3)).setCell (p := ⟨I, 4, none⟩) hne (.slice A k cap)).setCell (p := ⟨I, 5, none⟩) hne (.int .i64 n5)
        have HS : Hid (readItem r = (⟨false, ⟨n1, n2, n3, (nums maxNum k r4).1.map Int.ofNat, n5⟩⟩, r5)) := by
          show readItem r = _
          unfold readItem
          simp only [HN1.out, HN2.out, HN3.out, HN4.out, HN5.out]
          rw [if_neg (by intro h; subst h; simp at hzb)]
        have H9' := Lib.hid H9
        have hO9' := Lib.hid hO9
        clear H8 H9 hO5 hO9 HV HO hr5 hg5 hn5
        go_wp2
        generalize (((((((w5.setCell ⟨I, 5, none⟩ (.int .i64 n5)).setCell ⟨I, 0, none⟩ (.bool false)).setCell ⟨I, 1, none⟩ (.int .u8 n1)).setCell ⟨I, 2, none⟩ (.int .u8 n2)).setCell ⟨I, 3, none⟩ (.int .i64 n3)).setCell ⟨I, 4, none⟩ (.slice A k cap)).setCell ⟨I, 5, none⟩ (.int .i64 n5)) = w6 at H9' hO9' ⊢
        have hB : Blk w6 I 57 #[.bool false, .int .u8 n1, .int .u8 n2, .int .i64 n3, .slice A k cap, .int .i64 n5] := by simpa using H9'.out.i
        have z0 : w6.cell? ⟨I, 0, none⟩ = some (.bool false) := hB.cell 0
        have z1 : w6.cell? ⟨I, 1, none⟩ = some (.int .u8 n1) := hB.cell 1
        have z2 : w6.cell? ⟨I, 2, none⟩ = some (.int .u8 n2) := hB.cell 2
        have z3 : w6.cell? ⟨I, 3, none⟩ = some (.int .i64 n3) := hB.cell 3
        have z4 : w6.cell? ⟨I, 4, none⟩ = some (.slice A k cap) := hB.cell 4
        have z5 : w6.cell? ⟨I, 5, none⟩ = some (.int .i64 n5) := hB.cell 5
        have hlen : ((nums maxNum k r4).1.map Int.ofNat).length = k := by simp [nums_length]
        refine bodyPost_ret (v := .agg #[.bool false, .int .u8 n1, .int .u8 n2, .int .i64 n3, .slice A k cap, .int .i64 n5]) (by simp [results, Tryd.results51, go_sem, z0, z1, z2, z3, z4, z5]) rfl ⟨⟨⟨false, ⟨n1, n2, n3, (nums maxNum k r4).1.map Int.ofNat, n5⟩⟩, A, cap⟩, ?_, by rw [HS.out], by rw [HS.out]; exact H9'.out.r, H9'.out.gr, ?_, fun b hb => ?_⟩
        · simp only [ItmV.val, hlen]
        · show Reads w6 w6.heap.size 1 A ((nums maxNum k r4).1.map Int.ofNat).length (intsV ((nums maxNum k r4).1.map Int.ofNat))
          rw [hlen]
          exact hO9'.out.rd
        · exact hO9'.out.lt b hb
end Go.Proofs.YtnmnbefbadhkgaaDoor
