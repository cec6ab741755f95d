/-
  WALK: log.Show.
-/
import Derived.Test.YtnmnbefbadhkgaaDoorShow
import Derived.Test.YtnmnbefbadhkgaaDoorLogB
import Derived.Outline
import Derived.IntWalk
import Derived.Deep.RegionHeld3
namespace Go.Proofs.YtnmnbefbadhkgaaDoor
open Go Go.RowKit

def showSteps (l : List Int) : List UInt8 := l.flatMap fun n => 47 :: Lib.itoa n
def showTop (x : Stp) : List UInt8 := Lib.itoa x.pass ++ [46] ++ Lib.itoa x.way ++ [32] ++ Lib.itoa x.rule
def showItm (x : Itm) : List UInt8 := if x.may then (if x.mark then [109, 97, 114, 107] else showTop x.step ++ showSteps x.step.path ++ [32, 64] ++ Lib.itoa x.step.at_) else []

theorem itoa_any (n : Int) (w : World) (h0 : -9223372036854775808 ≤ n) (h1 : n ≤ 9223372036854775807) (ht : Tab w) :
    Calls Tryd.prog 56 #[.int .i64 n] w fun e w' => e = .returned (.string (showN n)) ∧ Below w.heap.size w w' := by
  refine (Tryd.strconv_Itoa n h0 h1 w ht).mono ?_
  rintro e w1 ⟨rfl, k, os, rfl⟩
  exact ⟨rfl, below_grow w k os⟩
theorem showN_le (n : Int) (h0 : 0 ≤ n) (h1 : n ≤ 2147483647) : (showN n).size ≤ 2147483648 := by
  show (Lib.itoa n).length ≤ 2147483648
  unfold Lib.itoa
  rw [if_neg (by omega)]
  have := decDigits_len n.toNat
  omega

/-- What holds while a line is written: the builder, the step's box, its path. -/
structure TInv (w : World) (b I : Nat) (cs : Array Value) (Av : Option Addr) (pl : List Int) (L : List UInt8) (w' : World) : Prop where
  tab : Tab w'
  bld : Lib.IsBuilder 82 5 b b (Lib.byteCells L) w'
  bel : Below w.heap.size w w'
  s : Blk w' I 55 cs
  r : Reads w' w.heap.size 1 Av pl.length (intsV pl)
theorem TInv.below {w : World} {b I : Nat} {cs : Array Value} {Av : Option Addr} {pl : List Int} {L : List UInt8} {w1 w2 : World} (h : TInv w b I cs Av pl L w1) (hb : Below w1.heap.size w1 w2) : TInv w b I cs Av pl L w2 :=
  ⟨h.tab.below hb h.tab.lt, builder_kept h.bld hb.block, h.bel.trans (hb.mono h.bel.size), h.s.below hb h.s.lt, h.r.below (hb.mono h.bel.size)⟩
theorem TInv.wrote {w : World} {b I : Nat} {cs : Array Value} {Av : Option Addr} {pl : List Int} {L : List UInt8} {w1 w2 : World} (h : TInv w b I cs Av pl L w1) {s : ByteArray} {M : List UInt8} (hM : s.data.toList = M)
    (hb : Lib.IsBuilder 82 5 b b (Lib.byteCells L ++ Lib.strCells s) w2) (hB : Below b w1 w2) (hO : Lib.OthersKept 5 (some b) w1 w2) (hwb : w.heap.size < b) (hbI : I ≠ b) (ht : Tab w) : TInv w b I cs Av pl (L ++ M) w2 :=
  ⟨h.tab.below hB (by have := ht.lt; omega), by rw [byteCells_append, ← hM]; exact hb, h.bel.trans (hB.mono (by omega)), h.s.others hO (by omega) (by decide), h.r.below (hB.mono (by omega))⟩

theorem steps_len' (pl : List Int) (k M : Nat) (h : ∀ x ∈ pl, (Lib.itoa x).length + 1 ≤ M) : (showSteps (pl.take k)).length ≤ pl.length * M := by
  have h1 := flat_len (fun n : Int => 47 :: Lib.itoa n) M (pl.take k) (fun x hx => h x (List.mem_of_mem_take hx))
  have h2 : (pl.take k).length ≤ pl.length := by simp [List.length_take]; omega
  exact Nat.le_trans h1 (Nat.mul_le_mul_right M h2)
theorem steps_len (pl : List Int) (k : Nat) (h : ∀ x ∈ pl, 0 ≤ x ∧ x ≤ 2147483647) : (showSteps (pl.take k)).length ≤ pl.length * 2147483649 :=
  steps_len' pl k _ fun x hx => by
    have h2 : (Lib.itoa x).length ≤ 2147483648 := showN_le x (h x hx).1 (h x hx).2
    omega
theorem TInv.three {w : World} {b I : Nat} {v0 v1 v2 v3 v4 : Value} {Av : Option Addr} {pl : List Int} {L : List UInt8} {w1 : World} (h : TInv w b I #[v0, v1, v2, v3, v4] Av pl L w1) : w1.cell? ⟨I, 0, none⟩ = some v0 ∧ w1.cell? ⟨I, 1, none⟩ = some v1 ∧ w1.cell? ⟨I, 2, none⟩ = some v2 := ⟨h.s.cell 0, h.s.cell 1, h.s.cell 2⟩
set_option maxRecDepth 100000 in
set_option maxHeartbeats 2000000 in
theorem logShow_any (w : World) (v : ItmV) (hr : v.rd w w.heap.size) (hf : v.x.step.fits) (ht : Tab w) :
    Calls Tryd.prog 28 #[v.val] w fun e w' => e = .returned (.string ⟨(showItm v.x).toArray⟩) ∧ Below w.heap.size w w' := by
  obtain ⟨m, hm⟩ : ∃ m, v.x.may = m := ⟨_, rfl⟩
  obtain ⟨q1, q2, q3, q4, q5, q6⟩ := hf
  have HM := Lib.hid hm
  have hr1 := hr.alloc (Nat.le_refl _) (.cells v.cells.toArray 57)
  unfold ItmV.val
  go_enter Tryd.func28, Tryd.ntmps28
  go_wp2_with fail
  refine (logMay_any _ w.heap.size v hr1 (by simp) q5).mono ?_
  rintro e w1 ⟨rfl, hb1⟩
  have bk1 := (Blk.new_ w 57 v.cells.toArray).below hb1 (by simp)
  have hbw1 : Below w.heap.size w w1 := ((Below.refl _ _).alloc (Nat.le_refl _) _).trans (hb1.mono (by simp))
  rw [hm]
  have c0 : w1.cell? ⟨w.heap.size, 0, none⟩ = some (.bool v.x.mark) := bk1.cell 0
  have c1 : w1.cell? ⟨w.heap.size, 1, none⟩ = some (.int .u8 v.x.step.pass) := bk1.cell 1
  have c2 : w1.cell? ⟨w.heap.size, 2, none⟩ = some (.int .u8 v.x.step.way) := bk1.cell 2
  have c3 : w1.cell? ⟨w.heap.size, 3, none⟩ = some (.int .i64 v.x.step.rule) := bk1.cell 3
  have c4 : w1.cell? ⟨w.heap.size, 4, none⟩ = some (.slice v.A v.x.step.path.length v.c) := bk1.cell 4
  have c5 : w1.cell? ⟨w.heap.size, 5, none⟩ = some (.int .i64 v.x.step.at_) := bk1.cell 5
  have hz1 : w.heap.size < w1.heap.size := by have := hb1.size; simp at this; omega
  clear hm hb1 hr1
  cases m
  · have hS : showItm v.x = [] := by unfold showItm; rw [HM.out]; rfl
    have HS := Lib.hid hS
    clear hS
    go_wp2
    go_ret
    exact ⟨by rw [HS.out]; rfl, hbw1⟩
  · obtain ⟨⟨mk, ⟨p, y, r, pl, t⟩⟩, Av, cv⟩ := v
    dsimp only at *
    cases mk
    · have hmay := HM.out
      simp only [Itm.may, Bool.false_eq_true, if_false, Bool.and_eq_true, decide_eq_true_eq, okNum, List.all_eq_true] at hmay
      obtain ⟨⟨⟨⟨_, hr0, hr1⟩, ht0, ht1⟩, hp32⟩, hall⟩ := hmay
      have HALL := Lib.hid hall
      clear hall
      go_wp2_with fail
      have hT0 : TInv w w1.heap.size (w1.heap.size + 1) #[.int .u8 p, .int .u8 y, .int .i64 r, .slice Av pl.length cv, .int .i64 t] Av pl [] ((w1.alloc (.cells #[.pointer none, .slice none 0 0] 82)).alloc (.cells #[.int .u8 p, .int .u8 y, .int .i64 r, .slice Av pl.length cv, .int .i64 t] 55)) := by
        have hbl : Below w.heap.size w ((w1.alloc (.cells #[.pointer none, .slice none 0 0] 82)).alloc (.cells #[.int .u8 p, .int .u8 y, .int .i64 r, .slice Av pl.length cv, .int .i64 t] 55)) := (hbw1.alloc (by omega) _).alloc (by simp; omega) _
        refine ⟨ht.below hbl ht.lt, builder_kept (Lib.fresh_isBuilder 82 5 w1) (fun k hk => heap_alloc_old _ _ hk), hbl, ?_, Reads.below hr hbl⟩
        have := Blk.new_ (w1.alloc (.cells #[.pointer none, .slice none 0 0] 82)) 55 #[.int .u8 p, .int .u8 y, .int .i64 r, .slice Av pl.length cv, .int .i64 t]
        simpa using this
      obtain ⟨wT, hwT⟩ : ∃ wT, wT = ((w1.alloc (.cells #[.pointer none, .slice none 0 0] 82)).alloc (.cells #[.int .u8 p, .int .u8 y, .int .i64 r, .slice Av pl.length cv, .int .i64 t] 55)) := ⟨_, rfl⟩
      rw [← hwT] at hT0 ⊢
      clear hwT bk1 c0 c1 c2 c3 c4 c5 hr
      obtain ⟨b, hb⟩ : ∃ b, w1.heap.size = b := ⟨_, rfl⟩
      rw [hb] at hT0 ⊢
      have hwb : w.heap.size < b := by omega
      clear hb hbw1 hz1
      have m0 : wT.cell? ⟨b + 1, 0, none⟩ = some (.int .u8 p) := hT0.s.cell 0
      have m1 : wT.cell? ⟨b + 1, 1, none⟩ = some (.int .u8 y) := hT0.s.cell 1
      have m2 : wT.cell? ⟨b + 1, 2, none⟩ = some (.int .i64 r) := hT0.s.cell 2
      have hT1 := hT0.below (Below.refl _ _).drew
      have s0 := showN_le p (by omega) (by omega)
      have s1 := showN_le y (by omega) (by omega)
      have s2 := showN_le r hr0 hr1
      have b1 : ¬ 9223372036854775807 < (showN p).size + 1 := by omega
      have b2 : ¬ 9223372036854775807 < (showN p).size + 1 + (showN y).size := by omega
      have b3 : ¬ 9223372036854775807 < (showN p).size + 1 + (showN y).size + 1 := by omega
      have b4 : ¬ 9223372036854775807 < (showN p).size + 1 + (showN y).size + 1 + (showN r).size := by omega
      have wp : IntKind.i64.wrap (p : Int) = p := IntWalk.i64_in _ (by omega)
      have wy : IntKind.i64.wrap (y : Int) = y := IntWalk.i64_in _ (by omega)
      go_region_held3 (fun w' => w'.cell? ⟨b + 1, 0, none⟩ = some (.int .u8 p) ∧ w'.cell? ⟨b + 1, 1, none⟩ = some (.int .u8 y) ∧ w'.cell? ⟨b + 1, 2, none⟩ = some (.int .i64 r))
        (first | exact ⟨m0, m1, m2⟩ | exact TInv.three (by assumption))
        (first | (go_at_call 56; refine (itoa_any _ _ ?_ ?_ ?_).mono ?_; (focus omega); (focus omega); (focus exact TInv.tab (by assumption)); rintro e w2 ⟨rfl, hb2⟩; have hT2 := TInv.below (by assumption) hb2) | (go_at_call 43; refine (builder_write _ _ _ _ _ (TInv.bld (by assumption)) ?_ ?_).mono ?_; (focus (rw [byteCells_length]; have q1 : (ByteArray.mk #[32]).size = 1 := rfl; have q2 : (ByteArray.mk #[46]).size = 1 := rfl; simp only [ByteArray.size_append, List.length_nil]; omega)); (focus exact Nat.le_of_lt (builder_lt (TInv.bld (by assumption)))); rintro e w2 ⟨rfl, hbl, hB, hO⟩; have hT2 := TInv.wrote (by assumption) rfl hbl hB hO hwb (by omega) ht))
      have hT3 : TInv w b (b + 1) #[.int .u8 p, .int .u8 y, .int .i64 r, .slice Av pl.length cv, .int .i64 t] Av pl (showTop ⟨p, y, r, pl, t⟩ ++ showSteps (pl.take 0)) w2 := by
        have e : ([] : List UInt8) ++ (showN p ++ ByteArray.mk #[46] ++ showN y ++ ByteArray.mk #[32] ++ showN r).data.toList = showTop ⟨p, y, r, pl, t⟩ ++ showSteps (pl.take 0) := by
          simp only [bytes_app]
          simp [showTop, showSteps, showN]
        rw [← e]
        exact hT2
      have HT3 := Lib.hid hT3
      have l3 : w2.cell? ⟨b + 1, 3, none⟩ = some (.slice Av pl.length cv) := hT3.s.cell 3
      have hpl : pl.length ≤ 32 := hp32
      have htop : (showTop ⟨p, y, r, pl, t⟩).length ≤ 6442450950 := by
        have e0 : (Lib.itoa p).length ≤ 2147483648 := s0
        have e1 : (Lib.itoa y).length ≤ 2147483648 := s1
        have e2 : (Lib.itoa r).length ≤ 2147483648 := s2
        simp only [showTop, List.length_append, List.length_cons, List.length_nil]
        omega
      clear hT0 hT1 hT2 hT3 hbl hB hO m0 m1 m2 wp wy b1 b2 b3 b4
      go_wp2
      go_loopw [35] (fun i wr => ∃ k : Nat, i = .int .i64 k ∧ k ≤ pl.length ∧ TInv w b (b + 1) #[.int .u8 p, .int .u8 y, .int .i64 r, .slice Av pl.length cv, .int .i64 t] Av pl (showTop ⟨p, y, r, pl, t⟩ ++ showSteps (pl.take k)) wr) (fun i _ => pl.length - (intOf i).toNat)
      case atStart => exact ⟨0, rfl, by omega, HT3.out⟩
      case round =>
        obtain ⟨k, rfl, hk, hT⟩ := hrel
        have HT := Lib.hid hT
        have hsl := steps_len pl k HALL.out
        have hbr := builder_lt hT.bld
        by_cases hkn : k < pl.length
        · obtain ⟨g, off, rfl, hg1, d0⟩ := hT.r.int hkn
          have hn := HALL.out _ (List.getElem_mem hkn)
          obtain ⟨n, hn'⟩ : ∃ n, pl[k] = n := ⟨_, rfl⟩
          have HE : Hid (showSteps (pl.take (k + 1)) = showSteps (pl.take k) ++ (47 :: Lib.itoa n)) := by
            show showSteps (pl.take (k + 1)) = _
            unfold showSteps
            rw [List.take_succ_eq_append_getElem hkn, List.flatMap_append, hn']
            simp
          rw [hn'] at d0 hn
          have s5 := showN_le n hn.1 hn.2
          clear hn' hT HT3 l3
          go_wp2_with fail
          refine (itoa_any n _ (by omega) (by omega) HT.out.tab).mono ?_
          rintro e w4 ⟨rfl, hb4⟩
          have HT4 := Lib.hid (HT.out.below hb4)
          have hz4 := hb4.size
          clear hb4
          go_wp2_with fail
          refine (builder_write b b _ _ _ HT4.out.bld ?_ (by omega)).mono ?_
          · rw [byteCells_length]
            have q1 : (ByteArray.mk #[47]).size = 1 := rfl
            simp only [ByteArray.size_append, List.length_append]
            omega
          rintro e w5 ⟨rfl, hbl, hB, hO⟩
          have hT5 := HT4.out.wrote rfl hbl hB hO hwb (by omega) ht
          have HT5 : Hid (TInv w b (b + 1) #[.int .u8 p, .int .u8 y, .int .i64 r, .slice (some ⟨g, off, none⟩) pl.length cv, .int .i64 t] (some ⟨g, off, none⟩) pl (showTop ⟨p, y, r, pl, t⟩ ++ showSteps (pl.take (k + 1))) w5) := by
            refine Lib.hid ?_
            rw [HE.out]
            have e : showTop ⟨p, y, r, pl, t⟩ ++ showSteps (pl.take k) ++ (ByteArray.mk #[47] ++ showN n).data.toList = showTop ⟨p, y, r, pl, t⟩ ++ (showSteps (pl.take k) ++ 47 :: Lib.itoa n) := by
              rw [bytes_app]; simp [showN]
            rw [← e]
            exact hT5
          clear hT5 hbl hB hO
          go_wp2
          go_roundw
          case rel => exact ⟨k + 1, by go_num, by omega, HT5.out⟩
          case measure => simp [intOf]; omega
        · obtain rfl : k = pl.length := by omega
          have l4 : wr.cell? ⟨b + 1, 4, none⟩ = some (.int .i64 t) := hT.s.cell 4
          have s5 := showN_le t ht0 ht1
          clear hT HT3 l3
          go_wp2_with fail
          refine (itoa_any t _ (by omega) (by omega) HT.out.tab).mono ?_
          rintro e w4 ⟨rfl, hb4⟩
          have HT4 := Lib.hid (HT.out.below hb4)
          have hz4 := hb4.size
          clear hb4
          go_wp2_with fail
          refine (builder_write b b _ _ _ HT4.out.bld ?_ (by omega)).mono ?_
          · rw [byteCells_length]
            have q1 : (ByteArray.mk #[32, 64]).size = 2 := rfl
            simp only [ByteArray.size_append, List.length_append]
            omega
          rintro e w5 ⟨rfl, hbl, hB, hO⟩
          have hT5 := HT4.out.wrote rfl hbl hB hO hwb (by omega) ht
          have hbr5 := builder_lt hT5.bld
          have e5 : showTop ⟨p, y, r, pl, t⟩ ++ showSteps (pl.take pl.length) ++ (ByteArray.mk #[32, 64] ++ showN t).data.toList = showItm ⟨false, ⟨p, y, r, pl, t⟩⟩ := by
            unfold showItm
            rw [HM.out, List.take_length, bytes_app]
            simp [showN]
          rw [e5] at hT5
          obtain ⟨SL, hSL⟩ : ∃ SL, showItm ⟨false, ⟨p, y, r, pl, t⟩⟩ = SL := ⟨_, rfl⟩
          rw [hSL] at hT5
          have HSL := Lib.hid hSL
          have HT5 := Lib.hid hT5
          clear hT5 hbl hB hO e5 hSL
          go_wp2_with fail
          refine (Tryd.Builder_String_any _ _ _ _ HT5.out.bld (Nat.le_of_lt hbr5)).mono ?_
          rintro e w6 ⟨rfl, hb6⟩
          have HB := Lib.hid (HT5.out.bel.trans (hb6.mono (by omega)))
          clear hb6
          go_wp2
          go_ret
          exact ⟨by rw [HSL.out]; rfl, HB.out⟩
    · have hS : showItm ⟨true, ⟨p, y, r, pl, t⟩⟩ = [109, 97, 114, 107] := by unfold showItm; rw [HM.out]; rfl
      have HS := Lib.hid hS
      clear hS
      go_wp2
      go_ret
      exact ⟨by rw [HS.out]; rfl, hbw1⟩
end Go.Proofs.YtnmnbefbadhkgaaDoor
