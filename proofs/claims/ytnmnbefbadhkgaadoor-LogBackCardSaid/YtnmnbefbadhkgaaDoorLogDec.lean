/-
  WALK: log.Decode.
-/
import Derived.Test.YtnmnbefbadhkgaaDoorLogItem
import Derived.Test.YtnmnbefbadhkgaaDoorLogB
namespace Go.Proofs.YtnmnbefbadhkgaaDoor
open Go Go.RowKit

theorem infoItm : (Tryd.prog.info? 57).map (fun i => (i.zero, i.size, i.bytes)) = some (some (.agg #[.bool false, .int .u8 0, .int .u8 0, .int .i64 0, .slice none 0 0, .int .i64 0]), 6, 56) := by kernel_rfl

theorem readItem_small (r : Rdr) : (readItem r).1.step.path.length ≤ 32 := by
  unfold readItem
  dsimp only
  split
  · simp [Stp.zero]
  · simp only [List.length_map, nums_length]
    exact num_le _ _

/-- What Decode has read so far. -/
structure DInv (w : World) (g : Nat) (r : Rdr) (A : Option Addr) (n cap : Nat) (lv : List ItmV) (w' : World) : Prop where
  r : RdrAt w' g r
  o : Owns w' w.heap.size 57 6 A n cap (lv.flatMap ItmV.cells)
  bel : Below w.heap.size w w'
  p : ∀ v ∈ lv, v.rd w' w'.heap.size ∧ v.x.step.path.length ≤ 32 ∧ ∀ b, blockOf v.A = some b → b ≠ g ∧ blockOf A ≠ some b ∧ b < w'.heap.size
theorem DInv.len {w : World} {g : Nat} {r : Rdr} {A : Option Addr} {n cap : Nat} {lv : List ItmV} {w' : World} (h : DInv w g r A n cap lv w') : n = lv.length := by
  have := h.o.1
  rw [flatN_length 6 ItmV.cells (fun _ => rfl)] at this
  omega
theorem DInv.ne_ {w : World} {g : Nat} {r : Rdr} {A : Option Addr} {n cap : Nat} {lv : List ItmV} {w' : World} (h : DInv w g r A n cap lv w') : blockOf A ≠ some g := by
  intro e
  obtain ⟨s, _, _, hB⟩ := h.r
  cases A with
  | none => cases e
  | some ad =>
    obtain ⟨g', off, rfl, _⟩ := h.o.2.2.2.2 _ rfl
    cases e
    exact h.o.ne_ hB (by decide) rfl

theorem DInv.err {w : World} {g : Nat} {r : Rdr} {A : Option Addr} {n cap : Nat} {lv : List ItmV} {w' : World} (h : DInv w g r A n cap lv w') : w'.cell? ⟨g, 1, none⟩ = some (.int .i64 r.e) := by
  obtain ⟨s, _, _, hB⟩ := h.r
  exact hB.cell 1

/-- One item more. -/
theorem DInv.next {w : World} {g : Nat} {r r' : Rdr} {A A3 : Option Addr} {n cap n3 cap3 : Nat} {lv : List ItmV} {w' w2 w3 : World} {v : ItmV} (h : DInv w g r A n cap lv w')
    (hgr : w'.grownBy w2 (some g)) (hg : w.heap.size ≤ g) (hr2 : RdrAt w2 g r') (hv : v.rd w2 w2.heap.size) (hv32 : v.x.step.path.length ≤ 32) (hvb : ∀ b, blockOf v.A = some b → w'.heap.size ≤ b ∧ b < w2.heap.size)
    (hown : Owns w3 w.heap.size 57 6 A3 n3 cap3 (lv.flatMap ItmV.cells ++ v.cells)) (hg3 : w2.grownBy w3 (blockOf A)) (hA : A3 = A ∨ ∃ g', blockOf A3 = some g' ∧ w2.heap.size ≤ g') : DInv w g r' A3 n3 cap3 (lv ++ [v]) w3 := by
  have hne := h.ne_
  have hg0 := h.r.lt
  have hAlt : ∀ b, blockOf A = some b → w.heap.size ≤ b ∧ b < w'.heap.size := fun b hb => h.o.lt b hb
  obtain ⟨s, s1, s2, s3⟩ := hr2
  refine ⟨⟨s, s1, s2, s3.grown hg3 (fun e => hne e.symm)⟩, by simpa using hown, ?_, fun x hx => ?_⟩
  · refine ⟨hg3.os.trans (hgr.os.trans h.bel.os), hg3.tape.trans (hgr.tape.trans h.bel.tape), hg3.output.trans (hgr.output.trans h.bel.output), Nat.le_trans h.bel.size (Nat.le_trans hgr.size hg3.size), fun k hk => ?_⟩
    have hkw := h.bel.size
    rw [hg3.block k (by have := hgr.size; omega) (fun e => by have := (hAlt k e.symm).1; omega), hgr.block k (by omega) (fun e => by cases e; omega)]
    exact h.bel.block k hk
  · have hA3 : ∀ b, blockOf A ≠ some b → b < w2.heap.size → blockOf A3 ≠ some b := fun b hb hlt e => by
      rcases hA with hA | ⟨g', h1, h2⟩
      · exact hb (by rw [← hA]; exact e)
      · rw [h1] at e; cases e; omega
    rcases List.mem_append.1 hx with hx | hx
    · obtain ⟨p1, p2, p3⟩ := h.p x hx
      refine ⟨?_, p2, fun b hb => ⟨(p3 b hb).1, hA3 b (p3 b hb).2.1 (Nat.lt_of_lt_of_le (p3 b hb).2.2 hgr.size), Nat.lt_of_lt_of_le (p3 b hb).2.2 (Nat.le_trans hgr.size hg3.size)⟩⟩
      have q1 : x.rd w2 w'.heap.size := Reads.apart p1 hgr (Nat.le_refl _) (fun _ b e e' => by cases e; exact (p3 _ e').1 rfl)
      have q2 : x.rd w3 w'.heap.size := Reads.apart q1 hg3 hgr.size (fun _ b e e' => (p3 b e').2.1 e)
      exact Reads.more q2 (Nat.le_trans hgr.size hg3.size)
    · simp only [List.mem_singleton] at hx
      subst hx
      have hbA : ∀ b, blockOf x.A = some b → blockOf A ≠ some b := fun b hb e => by have := (hAlt b e).2; have := (hvb b hb).1; omega
      refine ⟨Reads.more (Reads.apart hv hg3 (Nat.le_refl _) (fun _ b e e' => hbA b e' e)) hg3.size, hv32, fun b hb => ⟨?_, hA3 b (hbA b hb) (hvb b hb).2, Nat.lt_of_lt_of_le (hvb b hb).2 hg3.size⟩⟩
      have := (hvb b hb).1
      omega

def DecSays (w : World) (s : List UInt8) (e : Ending) (w' : World) : Prop :=
  ∃ (A : Option Addr) (c : Nat) (lv : List ItmV), e = .returned (.tuple #[.slice A lv.length c, .int .i64 (readLog s).2]) ∧ lv.map ItmV.x = (readLog s).1 ∧ ItmsAt w' w'.heap.size A lv ∧ (∀ v ∈ lv, v.x.step.path.length ≤ 32) ∧ Below w.heap.size w w'
theorem readItems_err (n : Nat) (r : Rdr) (h : (readItem r).2.e ≠ 0) : readItems (n + 1) r = ([(readItem r).1], (readItem r).2) := by
  rw [readItems, if_pos h]
theorem readItems_go (n : Nat) (r : Rdr) (h : (readItem r).2.e = 0) : readItems (n + 1) r = ((readItem r).1 :: (readItems n (readItem r).2).1, (readItems n (readItem r).2).2) := by
  rw [readItems, if_neg (by simpa using h)]

set_option maxRecDepth 100000 in
set_option maxHeartbeats 4000000 in
theorem decode_any (w : World) (s : ByteArray) (hs : s.size ≤ maxLen) :
    Calls Tryd.prog 26 #[.string s] w (DecSays w s.data.toList) := by
  have h0 : RdrAt (w.alloc (.cells #[.string s, .int .i64 0] 98)) w.heap.size ⟨s.data.toList, 0⟩ := ⟨s, rfl, hs, Blk.new_ _ _ _⟩
  go_enter Tryd.func26, Tryd.ntmps26
  go_wp2_with fail
  refine (num_any _ w.heap.size _ maxNum h0 (by unfold maxNum; omega) 2147483647 rfl).mono ?_
  rintro e w1 ⟨m, r1, hm, rfl, hr1, hg1⟩
  have hbel1 : Below w.heap.size w w1 := ⟨hg1.os, hg1.tape, hg1.output, by have := hg1.size; simp at this; omega, fun k hk => (hg1.block k (by simp; omega) (fun e => by cases e; omega)).trans (heap_alloc_old w _ hk)⟩
  have HN := Lib.hid hm
  obtain ⟨g, hg⟩ : ∃ g, w.heap.size = g := ⟨_, rfl⟩
  rw [hg] at hr1 ⊢
  have HG := Lib.hid hg
  clear h0 hm hg1 hg
  by_cases hbig : 4096 < m
  · have hR : readLog s.data.toList = ([], 40) := by
      unfold readLog
      simp only [HN.out]
      rw [if_pos hbig]
    have HR := Lib.hid hR
    have HB := Lib.hid hbel1
    clear hR hbel1 hr1
    go_wp2
    go_ret2
    exact ⟨none, 0, [], by rw [HR.out]; rfl, by rw [HR.out]; rfl, ⟨⟨rfl, fun h => absurd h (by simp)⟩, fun v hv => by cases hv⟩, fun v hv => (by cases hv), HB.out⟩
  · have hD0 : DInv w g r1 none 0 0 [] w1 := ⟨hr1, Owns.nil_ _ _ _ _, hbel1, fun v hv => by cases hv⟩
    have HD0 := Lib.hid hD0
    have hgw : w.heap.size ≤ g := by have := HG.out; omega
    clear hD0 hr1 hbel1
    go_wp2
    go_loopw [6, 15] (fun b i wr => ∃ (k : Nat) (r : Rdr) (A : Option Addr) (cap : Nat) (lv : List ItmV), i = .int .i64 k ∧ k ≤ m ∧ b = .slice A k cap ∧ DInv w g r A k cap lv wr ∧ Hid (readItems m r1 = (lv.map ItmV.x ++ (readItems (m - k) r).1, (readItems (m - k) r).2))) (fun _ i _ => m - (intOf i).toNat)
    case atStart => exact ⟨0, r1, none, 0, [], rfl, by omega, rfl, HD0.out, rfl⟩
    case round =>
      obtain ⟨k, r, A, cap, lv, rfl, hk, rfl, hinv, HR⟩ := hrel
      clear HD0
      have c1 : wr.cell? ⟨g, 1, none⟩ = some (.int .i64 r.e) := by
        obtain ⟨s', _, _, hB⟩ := hinv.r
        exact hB.cell 1
      have HV := Lib.hid hinv
      by_cases hkm : k < m
      · clear c1 hinv
        go_wp2_with fail
        refine (item_any _ g r HV.out.r).mono ?_
        rintro e w2 ⟨v, rfl, hvx, hr2, hgr2, hrd2, hvb⟩
        have hown2 := HV.out.o.grown hgr2 (fun b hb e => by cases e; exact HV.out.ne_ hb)
        have hz2 := Nat.le_trans HV.out.bel.size hgr2.size
        have c2 : w2.cell? ⟨g, 1, none⟩ = some (.int .i64 (readItem r).2.e) := by
          obtain ⟨s', _, _, hB⟩ := hr2
          exact hB.cell 1
        have HVX := Lib.hid hvx
        have HVB := Lib.hid hvb
        have HGR := Lib.hid hgr2
        have HRD := Lib.hid hrd2
        have HR2 := Lib.hid hr2
        have HO2 := Lib.hid hown2
        have hk4 : k ≤ 4096 := by omega
        clear hvx hvb hgr2 hrd2 hr2 hown2
        unfold ItmV.val
        obtain ⟨E, hE⟩ : ∃ E, (readItem r).2.e = E := ⟨_, rfl⟩
        rw [hE] at c2
        have HE := Lib.hid hE
        clear hE
        by_cases he0 : E = 0
        · subst he0
          go_wp2_with (at_builtin; refine wpList_app_new w2 v.cells 57 rfl (.tmp 17) (.tmp 20) 32 rfl 57 (.agg #[.bool false, .int .u8 0, .int .u8 0, .int .i64 0, .slice none 0 0, .int .i64 0]) 6 56 Tryd.underlying32 infoItm rfl w.heap.size A k cap (lv.flatMap ItmV.cells) w2.heap.size 1 1 rfl rfl HO2.out rfl rfl ?_ ?_ ?_ ?_ ?_; (focus (intro u hu; unfold ItmV.cells at hu; simp at hu; rcases hu with rfl | rfl | rfl | rfl | rfl | rfl <;> rfl)); (focus omega); (focus omega); (focus exact hz2); intro A3 cap3 w3 hown3 hg3 hA3 hA3n; have HD := Lib.hid (DInv.next HV.out HGR.out hgw HR2.out HRD.out (by rw [HVX.out]; exact readItem_small r) HVB.out hown3 hg3 hA3); have c3 : w3.cell? ⟨g, 1, none⟩ = some (.int .i64 0) := (by have := DInv.err HD.out; rw [HE.out] at this; simpa using this); clear hown3 hg3 hA3)
          go_roundw
          case rel =>
            refine ⟨k + 1, (readItem r).2, A3, cap3, lv ++ [v], by go_num, by omega, rfl, HD.out, ?_⟩
            show readItems m r1 = _
            rw [HR.out, show m - k = (m - (k + 1)) + 1 by omega, readItems_go _ _ HE.out]
            simp [HVX.out]
          case measure => simp [intOf]; omega
        · have hne : ((E : Int) != 0) = true := by simp; omega
          have HZ := Lib.hid he0
          have HL : Hid (readLog s.data.toList = ([], E)) := by
            show readLog s.data.toList = ([], E)
            unfold readLog
            simp only [HN.out]
            rw [if_neg hbig, HR.out, show m - k = (m - (k + 1)) + 1 by omega, readItems_err _ _ (by rw [HE.out]; exact HZ.out)]
            simp only [HE.out]
            rw [if_pos HZ.out]
          clear he0
          go_wp2_with (at_builtin; refine wpList_app_new w2 v.cells 57 rfl (.tmp 17) (.tmp 20) 32 rfl 57 (.agg #[.bool false, .int .u8 0, .int .u8 0, .int .i64 0, .slice none 0 0, .int .i64 0]) 6 56 Tryd.underlying32 infoItm rfl w.heap.size A k cap (lv.flatMap ItmV.cells) w2.heap.size 1 1 rfl rfl HO2.out rfl rfl ?_ ?_ ?_ ?_ ?_; (focus (intro u hu; unfold ItmV.cells at hu; simp at hu; rcases hu with rfl | rfl | rfl | rfl | rfl | rfl <;> rfl)); (focus omega); (focus omega); (focus exact hz2); intro A3 cap3 w3 hown3 hg3 hA3 hA3n; have HD := Lib.hid (DInv.next HV.out HGR.out hgw HR2.out HRD.out (by rw [HVX.out]; exact readItem_small r) HVB.out hown3 hg3 hA3); have c3 : w3.cell? ⟨g, 1, none⟩ = some (.int .i64 E) := (by have := DInv.err HD.out; rw [HE.out] at this; exact this); clear hown3 hg3 hA3)
          go_quiet (fail)
          go_wp2
          go_ret2
          exact ⟨none, 0, [], by rw [HL.out]; rfl, by rw [HL.out]; rfl, ⟨⟨rfl, fun h => absurd h (by simp)⟩, fun v hv => by cases hv⟩, fun v hv => (by cases hv), below_drewN HD.out.bel _⟩
      · obtain rfl : k = m := by omega
        have HR' : Hid (readItems k r1 = (lv.map ItmV.x, r)) := by
          show readItems k r1 = _
          rw [HR.out, Nat.sub_self]
          simp [readItems]
        have hln := hinv.len
        have hbel := hinv.bel
        have hits : ItmsAt wr wr.heap.size A lv := by
          have h1 := hinv.o.rd
          rw [hln] at h1
          exact ⟨h1, fun v hv => ⟨(hinv.p v hv).1, by have := (hinv.p v hv).2.1; unfold maxLen; omega⟩⟩
        have h32 : ∀ v ∈ lv, v.x.step.path.length ≤ 32 := fun v hv => (hinv.p v hv).2.1
        obtain ⟨s', hs1, hs2, hB⟩ := hinv.r
        have c0 : wr.cell? ⟨g, 0, none⟩ = some (.string s') := hB.cell 0
        have HBel := Lib.hid hbel
        have HIts := Lib.hid hits
        have H32 := Lib.hid h32
        have HS1 := Lib.hid hs1
        have HLn := Lib.hid hln
        obtain ⟨E, hE⟩ : ∃ E, r.e = E := ⟨_, rfl⟩
        rw [hE] at c1
        have HE := Lib.hid hE
        clear hE hinv hbel hits h32 hs1 hB hln HV HR
        by_cases he0 : E = 0
        · subst he0
          have c1' : wr.cell? ⟨g, 1, none⟩ = some (.int .i64 0) := by simpa using c1
          clear c1
          by_cases hse : s'.toList = []
          · have hL : readLog s.data.toList = (lv.map ItmV.x, 0) := by
              unfold readLog
              simp only [HN.out]
              rw [if_neg hbig, HR'.out]
              simp only [HE.out]
              rw [if_neg (by simp), if_neg (by rw [← HS1.out, ← ByteArray.toList_eq, hse]; simp)]
            have HL := Lib.hid hL
            have hse2 : s'.toList.isEmpty = true := by rw [hse]; rfl
            clear hL
            go_wp2
            go_ret2
            refine ⟨A, cap, lv, by rw [HL.out, ← HLn.out]; rfl, by rw [HL.out], HIts.out, H32.out, HBel.out⟩
          · have hL : readLog s.data.toList = ([], 10) := by
              unfold readLog
              simp only [HN.out]
              rw [if_neg hbig, HR'.out]
              simp only [HE.out]
              rw [if_neg (by simp), if_pos (by rw [← HS1.out, ← ByteArray.toList_eq]; exact hse)]
            have HL := Lib.hid hL
            have hse2 : (!s'.toList.isEmpty) = true := by simpa using hse
            have HSE := Lib.hid hse
            clear hL hse
            go_wp2
            go_ret2
            exact ⟨none, 0, [], by rw [HL.out]; rfl, by rw [HL.out]; rfl, ⟨⟨rfl, fun h => absurd h (by simp)⟩, fun v hv => by cases hv⟩, fun v hv => (by cases hv), HBel.out⟩
        · have hne : ((E : Int) != 0) = true := by simp; omega
          have hL : readLog s.data.toList = ([], E) := by
            unfold readLog
            simp only [HN.out]
            rw [if_neg hbig, HR'.out]
            simp only [HE.out]
            rw [if_pos he0]
          have HL := Lib.hid hL
          clear hL he0
          go_wp2
          go_quiet (fail)
          go_wp2
          go_ret2
          exact ⟨none, 0, [], by rw [HL.out]; rfl, by rw [HL.out]; rfl, ⟨⟨rfl, fun h => absurd h (by simp)⟩, fun v hv => by cases hv⟩, fun v hv => (by cases hv), below_drewN HBel.out _⟩
end Go.Proofs.YtnmnbefbadhkgaaDoor
