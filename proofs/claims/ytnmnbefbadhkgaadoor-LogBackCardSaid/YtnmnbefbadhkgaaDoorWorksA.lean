/-
  WALKS: span.Texts, and the law's own 'texts', 'some', 'works': the examples are as they are told.
-/
import Derived.Test.YtnmnbefbadhkgaaDoorShow
namespace Go.Proofs.YtnmnbefbadhkgaaDoor
open Go.RowKit

theorem infoStr : (Tryd.prog.info? 9).map (fun i => (i.zero, i.size, i.bytes)) = some (some (.string ⟨#[]⟩), 1, 16) := by kernel_rfl

def strVals (l : List ByteArray) : List Value := l.map Value.string
/-- The pieces that were captured by a name. -/
def textsOf (o : Out) (input name : ByteArray) : List ByteArray :=
  if mayB o input.size then (o.caps.filter fun c => c.name.toList == name.toList).map fun c => input.extract c.fr.toNat c.to.toNat else []

def TextsSays (w : World) (l : List ByteArray) (e : Ending) (w' : World) : Prop :=
  ∃ A' cap', e = .returned (.slice A' l.length cap') ∧ Owns w' w.heap.size 9 1 A' l.length cap' (strVals l) ∧ Below w.heap.size w w'

set_option maxRecDepth 100000 in
set_option maxHeartbeats 1000000 in
theorem texts_no (w : World) (x : OutV) (input name : ByteArray) (hr : x.rd w w.heap.size) (hf : x.o.fits) (_hi : input.size ≤ maxLen) (hm : mayB x.o input.size = false) :
    Calls Tryd.prog 31 #[x.val, .string input, .string name] w (TextsSays w []) := by
  obtain ⟨⟨ok, tt, caps⟩, A, c⟩ := x
  unfold OutV.val
  unfold OutV.rd at hr
  unfold maxLen at _hi
  dsimp only at *
  have h1 := hr.alloc (Nat.le_refl _) (.cells #[.bool ok, .int .i64 tt, .slice A caps.length c] 24)
  have HM := Lib.hid hm
  clear hm
  go_enter Tryd.func31, Tryd.ntmps31
  go_wp2_with fail
  refine (spanMay_at _ w.heap.size A c ok tt input.size caps h1 (by simp) hf).mono ?_
  rintro e w1 ⟨rfl, hb1⟩
  rw [HM.out]
  go_wp2
  go_ret
  exact ⟨none, 0, rfl, Owns.nil_ _ _ _ _, ((Below.refl _ _).alloc (Nat.le_refl _) _).trans (hb1.mono (by simp))⟩

/-- The state at the head of Texts' loop. -/
def TextsRel (w wr : World) (v0 v1 v2 : Value) (input name : ByteArray) (cs : List Cap) (op i : Value) : Prop :=
  ∃ k l A cap, i = .int .i64 (k : Nat) ∧ op = .slice A l.length cap ∧ k ≤ cs.length ∧ l = ((cs.take k).filter fun c => c.name.toList == name.toList).map (fun c => input.extract c.fr.toNat c.to.toNat) ∧
    Owns wr (w.heap.size + 1) 9 1 A l.length cap (strVals l) ∧ Below w.heap.size w wr ∧ Blk wr w.heap.size 24 #[v0, v1, v2]

set_option maxRecDepth 100000 in
set_option maxHeartbeats 2000000 in
theorem texts_ok (w : World) (A : Option Addr) (c : Nat) (tt : Int) (caps : List Cap) (input name : ByteArray) (hr : Reads w w.heap.size 3 A caps.length (capCells caps)) (hf : Out.fits ⟨true, tt, caps⟩) (_hi : input.size ≤ maxLen) (hm : Good ⟨true, tt, caps⟩ input.size) :
    Calls Tryd.prog 31 #[.agg #[.bool true, .int .i64 tt, .slice A caps.length c], .string input, .string name] w (TextsSays w (textsOf ⟨true, tt, caps⟩ input name)) := by
  have h1 := hr.alloc (Nat.le_refl _) (.cells #[.bool true, .int .i64 tt, .slice A caps.length c] 24)
  have hmB := (good_iff _ _ rfl).2 hm
  have HM := Lib.hid hmB
  have ht0 := hm.t0
  have ht1 := hm.t1
  have hn1 := hm.n1
  have hcnt := hm.cnt
  dsimp only at ht0 ht1 hcnt
  have hspec : textsOf ⟨true, tt, caps⟩ input name = (caps.filter fun c => c.name.toList == name.toList).map (fun c => input.extract c.fr.toNat c.to.toNat) := by
    unfold textsOf; rw [if_pos hmB]
  rw [hspec]
  clear hspec hmB
  unfold maxLen at _hi
  go_enter Tryd.func31, Tryd.ntmps31
  go_wp2_with fail
  refine (spanMay_at _ w.heap.size A c true tt input.size caps h1 (by simp) hf).mono ?_
  rintro e w1 ⟨rfl, hb1⟩
  rw [HM.out]
  have bk0 := (Blk.new_ w 24 #[.bool true, .int .i64 tt, .slice A caps.length c]).below hb1 (by simp)
  have hbw : Below w.heap.size w w1 := ((Below.refl _ _).alloc (Nat.le_refl _) _).trans (hb1.mono (by simp))
  obtain ⟨⟨k0, k1, k2⟩, _⟩ := bk0.three
  clear h1 hb1
  go_wp2
  go_loopw [7, 18] (fun op i wr => TextsRel w wr (.bool true) (.int .i64 tt) (.slice A caps.length c) input name caps op i) (fun _ i _ => caps.length - (intOf i).toNat)
  case atStart => exact ⟨0, [], none, 0, rfl, rfl, Nat.zero_le _, rfl, Owns.nil_ _ _ _ _, hbw, bk0⟩
  case round =>
    clear k0 k1 k2 bk0 hbw
    obtain ⟨k, l, A1, cap1, rfl, rfl, hk, hl, hown, hb, bo⟩ := hrel
    have HL := Lib.hid hl
    have hll : l.length ≤ k := by rw [hl, List.length_map]; exact Nat.le_trans (List.length_filter_le _ _) (List.length_take_le _ _)
    clear hl
    obtain ⟨⟨m0, m1, m2⟩, n0, n1, n2⟩ := bo.three
    have hz := bo.lt
    by_cases hkn : k < caps.length
    · obtain ⟨g, off, rfl, hg1, c0, c1, c2⟩ := hr.cap hkn
      have hxin := hm.caps caps[k] (List.getElem_mem hkn)
      obtain ⟨x, hx⟩ : ∃ x, caps[k] = x := ⟨_, rfl⟩
      rw [hx] at c0 c1 c2 hxin
      obtain ⟨x0, x1, x2, _⟩ := hxin
      dsimp only at x2
      have e0 := (hb.cell (p := ⟨g, off + k * 3, none⟩) hg1).trans c0
      have e1 := (hb.cell (p := ⟨g, off + k * 3 + 1, none⟩) hg1).trans c1
      have e2 := (hb.cell (p := ⟨g, off + k * 3 + 2, none⟩) hg1).trans c2
      have htk : caps.take (k + 1) = caps.take k ++ [x] := by rw [List.take_succ_eq_append_getElem hkn, hx]
      have HT := Lib.hid htk
      clear hx c0 c1 c2 htk
      by_cases hnm : (x.name.toList == name.toList) = true
      · go_wp2_with ((at_builtin; refine wpList_app_new (wr.alloc (.cells #[.string x.name, .int .i64 x.fr, .int .i64 x.to] 45)) [.string (input.extract x.fr.toNat x.to.toNat)] 9 rfl (.tmp 26) (.tmp 33) 65 rfl 9 (.string ⟨#[]⟩) 1 16 Tryd.underlying65 infoStr rfl (w.heap.size + 1) A1 l.length cap1 (strVals l) (wr.heap.size + 1) 1 1 rfl rfl (hown.alloc _) ?_ rfl ?_ ?_ ?_ ?_ ?_; (focus simp); (focus (intro u hu; simp at hu; subst hu; rfl)); (focus omega); (focus omega); (focus first | (simp; done) | (simp; omega)); intro A3 cap3 w3 hown3 hg3 hA3 hA3n))
        have hlt := hown.lt
        have hrel' : TextsRel w w3 (.bool true) (.int .i64 tt) (.slice (some ⟨g, off, none⟩) caps.length c) input name caps (.slice A3 (l.length + 1) cap3) (.int .i64 ((k : Int) + 1)) := by
          have hz3 := hg3.size
          simp at hz3
          refine ⟨k + 1, l ++ [input.extract x.fr.toNat x.to.toNat], A3, cap3, by go_num, by simp, by omega, ?_, by simpa [strVals] using hown3, ?_, (bo.alloc _).grown hg3 (fun e => by have := (hlt _ e.symm).1; omega)⟩
          · rw [HT.out, List.filter_append, List.map_append, HL.out]
            simp [hnm]
          · exact (hb.alloc (Nat.le_of_lt hz) _).grown hg3 (by simp; omega) (fun g e => by have := (hlt _ e).1; omega)
        have HR := Lib.hid hrel'
        clear hrel' hown3 hg3
        go_roundw
        case rel => exact HR.out
        case measure => simp [intOf]; omega
      · have hnm' : (x.name.toList == name.toList) = false := by simpa using hnm
        clear hnm
        go_wp2
        go_roundw
        case rel => exact ⟨k + 1, l, A1, cap1, by go_num, rfl, by omega, by rw [HT.out, List.filter_append, List.map_append, HL.out]; simp [hnm'], hown.alloc _, hb.alloc (Nat.le_of_lt hz) _, bo.alloc _⟩
        case measure => simp [intOf]; omega
    · obtain rfl : k = caps.length := by omega
      have hl2 : (caps.filter fun c => c.name.toList == name.toList).map (fun c => input.extract c.fr.toNat c.to.toNat) = l := by rw [HL.out, List.take_length]
      have hfin : TextsSays w ((caps.filter fun c => c.name.toList == name.toList).map (fun c => input.extract c.fr.toNat c.to.toNat)) (.returned (.slice A1 l.length cap1)) wr := by
        rw [hl2]
        exact ⟨A1, cap1, rfl, hown.mono (by omega), hb⟩
      have HF := Lib.hid hfin
      clear hl2 hfin
      go_wp2
      go_ret
      exact HF.out

/-- The same strings? -/
def textsB (a b : List ByteArray) : Bool := a.map ByteArray.toList == b.map ByteArray.toList
theorem Reads.str {w : World} {B : Nat} {A : Option Addr} {n : Nat} {l : List ByteArray} (h : Reads w B 1 A n (strVals l)) {k : Nat} (hk : k < l.length) :
    ∃ g off, A = some ⟨g, off, none⟩ ∧ g < B ∧ w.cell? ⟨g, off + k, none⟩ = some (.string l[k]) := by
  have hn : 0 < n := by have := h.1; simp [strVals] at this; omega
  obtain ⟨g, off, rfl, hb, hc⟩ := h.2 hn
  exact ⟨g, off, rfl, hb, hc k _ (by simp [strVals, hk])⟩

set_option maxRecDepth 100000 in
set_option maxHeartbeats 1000000 in
theorem textsEq_any (w : World) (B : Nat) (A1 A2 : Option Addr) (c1 c2 : Nat) (l1 l2 : List ByteArray) (h1 : Reads w B 1 A1 l1.length (strVals l1)) (h2 : Reads w B 1 A2 l2.length (strVals l2)) (m1 : l1.length ≤ maxLen) (m2 : l2.length ≤ maxLen) (heq : l1 = l2) :
    Calls Tryd.prog 30 #[.slice A1 l1.length c1, .slice A2 l2.length c2] w fun e w' => e = .returned (.bool true) ∧ Below w.heap.size w w' := by
  unfold maxLen at m1 m2
  subst heq
  go_enter Tryd.func30, Tryd.ntmps30
  go_wp2
  go_loopw [5] (fun i wr => ∃ k q : Nat, i = .int .i64 k ∧ k ≤ l1.length ∧ wr = w.drewN q) (fun i _ => l1.length - (intOf i).toNat)
  case atStart => exact ⟨0, 0, rfl, by omega, rfl⟩
  case round =>
    obtain ⟨k, q, rfl, hk, rfl⟩ := hrel
    by_cases hkn : k < l1.length
    · obtain ⟨g, off, rfl, _, d0⟩ := h1.str hkn
      obtain ⟨g', off', rfl, _, e0⟩ := h2.str hkn
      go_wp2
      go_quiet (fail)
      go_wp2
      go_roundw
      case rel => exact ⟨k + 1, q + nq, by go_num, by omega, by simp⟩
      case measure => simp [intOf]; omega
    · obtain rfl : k = l1.length := by omega
      go_wp2
      go_ret
      exact ⟨rfl, below_drewN (Below.refl _ _) _⟩

def someO : Out := ⟨true, 5, [⟨⟨#[110]⟩, 0, 5⟩, ⟨⟨#[109]⟩, 1, 2⟩, ⟨⟨#[109]⟩, 2, 2⟩]⟩
def crossO : Out := ⟨true, 5, [⟨⟨#[109]⟩, 0, 2⟩, ⟨⟨#[109]⟩, 1, 3⟩]⟩

theorem some_any (w : World) : Calls Tryd.prog 29 #[] w fun e w' => e = .returned (.agg #[.bool true, .int .i64 5, .slice (some ⟨w.heap.size + 1, 0, none⟩) 3 3]) ∧ Reads w' w'.heap.size 3 (some ⟨w.heap.size + 1, 0, none⟩) 3 (capCells someO.caps) ∧ Below w.heap.size w w' := by
  go_enter Tryd.func29, Tryd.ntmps29
  go_wp2
  refine bodyPost_ret (v := .agg #[.bool true, .int .i64 5, .slice (some ⟨w.heap.size + 1, 0, none⟩) 3 3]) (by simp [results, Tryd.results29, go_sem]) rfl ⟨rfl, ?_, ?_⟩
  · have h := (Owns.new_ (w.alloc (.cells #[.bool true, .int .i64 5, .slice (some ⟨w.heap.size + 1, 0, none⟩) 3 3] 24)) 45 3 3 (base := 0)
      #[.string ⟨#[110]⟩, .int .i64 0, .int .i64 5, .string ⟨#[109]⟩, .int .i64 1, .int .i64 2, .string ⟨#[109]⟩, .int .i64 2, .int .i64 2] rfl (by unfold maxLen; omega) (Nat.zero_le _)).rd
    simpa [someO, capCells, Cap.cells] using h
  · exact ((Below.refl _ _).alloc (Nat.le_refl _) _).alloc (by simp) _

theorem some_fits : someO.fits := by
  refine ⟨⟨by decide, by decide⟩, by unfold maxLen; decide, fun c hc => ?_⟩
  simp only [someO, List.mem_cons, List.mem_nil_iff, or_false] at hc
  rcases hc with rfl | rfl | rfl <;> refine ⟨?_, ⟨by decide, by decide⟩, ⟨by decide, by decide⟩⟩ <;> (unfold maxLen; decide)
theorem cross_fits : crossO.fits := by
  refine ⟨⟨by decide, by decide⟩, by unfold maxLen; decide, fun c hc => ?_⟩
  simp only [crossO, List.mem_cons, List.mem_nil_iff, or_false] at hc
  rcases hc with rfl | rfl <;> refine ⟨?_, ⟨by decide, by decide⟩, ⟨by decide, by decide⟩⟩ <;> (unfold maxLen; decide)
theorem some_may : mayB someO 5 = true := by decide +kernel
theorem some_may' : mayB someO 4096 = true := by decide +kernel
theorem cross_not : mayB crossO 5 = false := by decide +kernel
theorem some_text : showOut someO = [109, 97, 116, 99, 104, 32, 53, 10, 110, 32, 48, 32, 53, 10, 109, 32, 49, 32, 50, 10, 109, 32, 50, 32, 50, 10] := by
  have d : ∀ u : Nat, u < 10 → Lib.itoa (u : Int) = [UInt8.ofNat (48 + u)] := fun u h => by
    unfold Lib.itoa
    rw [if_neg (by omega), Int.toNat_natCast, Lib.decDigits, dif_pos h]
  have d0 := d 0 (by decide); have d1 := d 1 (by decide); have d2 := d 2 (by decide); have d5 := d 5 (by decide)
  simp only [showOut, someO, showHead, showCap, List.flatMap_cons, List.flatMap_nil, if_true]
  rw [show (5 : Int) = ((5 : Nat) : Int) from rfl, show (0 : Int) = ((0 : Nat) : Int) from rfl, show (1 : Int) = ((1 : Nat) : Int) from rfl, show (2 : Int) = ((2 : Nat) : Int) from rfl, d0, d1, d2, d5]
  rfl
theorem some_texts : textsOf someO ⟨#[97, 98, 99, 100, 101]⟩ ⟨#[109]⟩ = [⟨#[98]⟩, ⟨#[]⟩] := by decide +kernel
end Go.Proofs.YtnmnbefbadhkgaaDoor
