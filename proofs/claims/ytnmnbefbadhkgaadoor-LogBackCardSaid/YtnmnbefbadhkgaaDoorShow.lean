/-
  WALKS: name.Show is strconv.Itoa; span.Show.
-/
import Derived.Test.YtnmnbefbadhkgaaDoorSpanE
import Derived.Test.YtnmnbefbadhkgaaDoorBuilder
import Derived.Test.YtnmnbefbadhkgaaDoorShelf
import Derived.Deep.RegionHeld3
namespace Go.Proofs.YtnmnbefbadhkgaaDoor
open Go.RowKit

/-- The table of powers of ten reads as it is laid. -/
def Tab (w : World) : Prop := Lib.TabIs Tryd.prog w "internal/strconv.uint64pow10" .u64 Lib.pow10Tab
theorem gTab : Tryd.prog.globalNamed "internal/strconv.uint64pow10" = some 3 := by kernel_rfl
theorem Tab.lt {w : World} (h : Tab w) : 3 < w.heap.size := by
  have := Lib.TabIs.cell h gTab 0 (by decide)
  exact World.block_lt_of_cell? w _ this
theorem Tab.below {w w' : World} {B : Nat} (h : Tab w) (hb : Below B w w') (hB : 3 < B) : Tab w' := var?_below hb gTab hB h

theorem below_grow (w : World) (q : Nat) (os : Array Obj) : Below w.heap.size w (Sort.grow (w.drewN q) os) :=
  ⟨rfl, rfl, rfl, by simp [Sort.grow], fun i hi => by
    show ((w.drewN q).heap ++ os)[i]? = _
    rw [Array.getElem?_append_left (by show i < w.heap.size; omega)]
    rfl⟩

def showN (n : Int) : ByteArray := ⟨(Lib.itoa n).toArray⟩

theorem nameShow_any (n : Int) (w : World) (h0 : -9223372036854775808 ≤ n) (h1 : n ≤ 9223372036854775807) (ht : Tab w) :
    Calls Tryd.prog 44 #[.int .i64 n] w fun e w' => e = .returned (.string (showN n)) ∧ Below w.heap.size w w' := by
  go_enter Tryd.func44, Tryd.ntmps44
  go_wp2_with fail
  refine (Tryd.strconv_Itoa n h0 h1 w ht).mono ?_
  rintro e w1 ⟨rfl, k, os, rfl⟩
  go_wp2
  go_ret
  exact ⟨rfl, below_grow w k os⟩

theorem decDigits_len (u : Nat) : (Lib.decDigits u).length ≤ u + 1 := by
  induction u using Nat.strongRecOn with
  | ind u ih =>
    rw [Lib.decDigits]
    split
    · simp
    · rw [List.length_append]
      have := ih (u / 10) (by omega)
      simp
      omega
theorem showN_size (n : Int) (h0 : 0 ≤ n) (h1 : n ≤ 4096) : (Lib.itoa n).length ≤ 4097 := by
  unfold Lib.itoa
  rw [if_neg (by omega)]
  have := decDigits_len n.toNat
  omega

def showCap (c : Cap) : List UInt8 := c.name.data.toList ++ [32] ++ Lib.itoa c.fr ++ [32] ++ Lib.itoa c.to ++ [10]
def showHead (tt : Int) : List UInt8 := [109, 97, 116, 99, 104, 32] ++ Lib.itoa tt ++ [10]
def showOut (o : Out) : List UInt8 := if o.ok then showHead o.to ++ o.caps.flatMap showCap else [102, 97, 105, 108, 10]

theorem nameMay_le {l : List UInt8} (h : nameMay l = true) : l.length ≤ 32 := by
  simp only [nameMay, Bool.and_eq_true, decide_eq_true_eq] at h
  exact h.2.1
theorem showCap_len {o : Out} {n : Int} (h : Good o n) : ∀ c ∈ o.caps, (showCap c).length ≤ 9000 := by
  intro c hc
  obtain ⟨h0, h1, h2, h3⟩ := h.caps c hc
  have h4 := nameMay_le h3
  have := h.t1
  have := h.n1
  have e1 := showN_size c.fr h0 (by omega)
  have e2 := showN_size c.to (by omega) (by omega)
  simp only [showCap, List.length_append, List.length_cons, List.length_nil]
  omega
theorem flat_len {α : Type} (f : α → List UInt8) (m : Nat) : ∀ (l : List α), (∀ x ∈ l, (f x).length ≤ m) → (l.flatMap f).length ≤ l.length * m
  | [], _ => by simp
  | x :: l, h => by
    have := h x (by simp)
    have := flat_len f m l (fun y hy => h y (List.mem_cons_of_mem _ hy))
    rw [List.flatMap_cons, List.length_append, List.length_cons, Nat.add_mul]
    omega
theorem bytes_app (a b : ByteArray) : (a ++ b).data.toList = a.data.toList ++ b.data.toList := by simp

set_option maxRecDepth 100000 in
set_option maxHeartbeats 1000000 in
theorem spanShow_nomay (w : World) (x : OutV) (hr : x.rd w w.heap.size) (hf : x.o.fits) (hm : mayB x.o 4096 = false) :
    Calls Tryd.prog 23 #[x.val] w fun e w' => e = .returned (.tuple #[.string ⟨#[]⟩, .int .i64 4]) ∧ Below w.heap.size w w' := by
  obtain ⟨⟨ok, tt, caps⟩, A, c⟩ := x
  unfold OutV.val
  unfold OutV.rd at hr
  dsimp only at *
  have h1 := hr.alloc (Nat.le_refl _) (.cells #[.bool ok, .int .i64 tt, .slice A caps.length c] 24)
  have HM := Lib.hid hm
  clear hm
  go_enter Tryd.func23, Tryd.ntmps23
  go_wp2_with fail
  refine (spanMay_at _ w.heap.size A c ok tt 4096 caps h1 (by simp) hf).mono ?_
  rintro e w1 ⟨rfl, hb1⟩
  rw [HM.out]
  go_wp2
  go_ret2
  exact ⟨rfl, ((Below.refl _ _).alloc (Nat.le_refl _) _).trans (hb1.mono (by simp))⟩

set_option maxRecDepth 100000 in
set_option maxHeartbeats 1000000 in
theorem spanShow_fail (w : World) (A : Option Addr) (c : Nat) (tt : Int) (caps : List Cap) (hr : Reads w w.heap.size 3 A caps.length (capCells caps)) (hf : Out.fits ⟨false, tt, caps⟩) (hm : mayB ⟨false, tt, caps⟩ 4096 = true) :
    Calls Tryd.prog 23 #[.agg #[.bool false, .int .i64 tt, .slice A caps.length c]] w fun e w' => e = .returned (.tuple #[.string ⟨#[102, 97, 105, 108, 10]⟩, .int .i64 0]) ∧ Below w.heap.size w w' := by
  have h1 := hr.alloc (Nat.le_refl _) (.cells #[.bool false, .int .i64 tt, .slice A caps.length c] 24)
  have HM := Lib.hid hm
  clear hm
  go_enter Tryd.func23, Tryd.ntmps23
  go_wp2_with fail
  refine (spanMay_at _ w.heap.size A c false tt 4096 caps h1 (by simp) hf).mono ?_
  rintro e w1 ⟨rfl, hb1⟩
  rw [HM.out]
  obtain ⟨⟨k0, k1, k2⟩, _⟩ := ((Blk.new_ w 24 #[.bool false, .int .i64 tt, .slice A caps.length c]).below hb1 (by simp)).three
  go_wp2
  go_ret2
  exact ⟨rfl, ((Below.refl _ _).alloc (Nat.le_refl _) _).trans (hb1.mono (by simp))⟩

/-- What holds within a round of Show's loop. -/
structure SInv (w wr : World) (b : Nat) (L : List UInt8) (v0 v1 v2 : Value) (x : Cap) (w' : World) : Prop where
  tab : Tab w'
  bld : Lib.IsBuilder 82 5 b b (Lib.byteCells L) w'
  bel : Below w.heap.size w w'
  o : Blk w' w.heap.size 24 #[v0, v1, v2]
  c : Blk w' wr.heap.size 45 #[.string x.name, .int .i64 x.fr, .int .i64 x.to]
theorem SInv.below {w wr : World} {b : Nat} {L : List UInt8} {v0 v1 v2 : Value} {x : Cap} {w1 w2 : World} (h : SInv w wr b L v0 v1 v2 x w1) (hb : Below w1.heap.size w1 w2) : SInv w wr b L v0 v1 v2 x w2 :=
  ⟨h.tab.below hb h.tab.lt, builder_kept h.bld hb.block, h.bel.trans (hb.mono h.bel.size), h.o.below hb h.o.lt, h.c.below hb h.c.lt⟩
theorem SInv.wrote {w wr : World} {b : Nat} {L : List UInt8} {v0 v1 v2 : Value} {x : Cap} {w1 w2 : World} (h : SInv w wr b L v0 v1 v2 x w1) {s : ByteArray} {M : List UInt8} (hM : s.data.toList = M)
    (hb : Lib.IsBuilder 82 5 b b (Lib.byteCells L ++ Lib.strCells s) w2) (hB : Below b w1 w2) (hO : Lib.OthersKept 5 (some b) w1 w2) (hwb : w.heap.size < b) (hbr : b < wr.heap.size) (ht : Tab w) : SInv w wr b (L ++ M) v0 v1 v2 x w2 :=
  ⟨h.tab.below hB (by have := ht.lt; omega), by rw [byteCells_append, ← hM]; exact hb, h.bel.trans (hB.mono (by omega)), h.o.others hO (by omega) (by decide), h.c.others hO (by omega) (by decide)⟩

/-- The state at the head of Show's loop. -/
def ShowRel (w wr : World) (b : Nat) (v0 v1 v2 : Value) (tt : Int) (cs : List Cap) (i : Value) : Prop :=
  ∃ k, i = .int .i64 (k : Nat) ∧ k ≤ cs.length ∧ Lib.IsBuilder 82 5 b b (Lib.byteCells (showHead tt ++ (cs.take k).flatMap showCap)) wr ∧ Below w.heap.size w wr ∧ w.heap.size < b ∧ Blk wr w.heap.size 24 #[v0, v1, v2] ∧ Tab wr

set_option maxRecDepth 100000 in
set_option maxHeartbeats 2000000 in
theorem spanShow_ok (w : World) (A : Option Addr) (c : Nat) (tt : Int) (caps : List Cap) (hr : Reads w w.heap.size 3 A caps.length (capCells caps)) (hf : Out.fits ⟨true, tt, caps⟩) (hm : Good ⟨true, tt, caps⟩ 4096) (ht : Tab w) :
    Calls Tryd.prog 23 #[.agg #[.bool true, .int .i64 tt, .slice A caps.length c]] w fun e w' => e = .returned (.tuple #[.string ⟨(showOut ⟨true, tt, caps⟩).toArray⟩, .int .i64 0]) ∧ Below w.heap.size w w' := by
  have h1 := hr.alloc (Nat.le_refl _) (.cells #[.bool true, .int .i64 tt, .slice A caps.length c] 24)
  have HM := Lib.hid ((good_iff _ _ rfl).2 hm)
  have ht0 := hm.t0
  have ht1 := hm.t1
  have hcnt := hm.cnt
  have hcl := showCap_len hm
  dsimp only at ht0 ht1 hcnt hcl
  go_enter Tryd.func23, Tryd.ntmps23
  go_wp2_with fail
  refine (spanMay_at _ w.heap.size A c true tt 4096 caps h1 (by simp) hf).mono ?_
  rintro e w1 ⟨rfl, hb1⟩
  rw [HM.out]
  have bk0 := (Blk.new_ w 24 #[.bool true, .int .i64 tt, .slice A caps.length c]).below hb1 (by simp)
  have hbw : Below w.heap.size w w1 := ((Below.refl _ _).alloc (Nat.le_refl _) _).trans (hb1.mono (by simp))
  have hz1 : w.heap.size < w1.heap.size := by have := hb1.size; simp at this; omega
  obtain ⟨⟨k0, k1, k2⟩, _⟩ := bk0.three
  clear h1 hb1
  have hbld := Lib.fresh_isBuilder 82 5 w1
  have htw := ht.lt
  have ht1' : Tab (w1.alloc (.cells #[.pointer none, .slice none 0 0] 82)) := (ht.below hbw htw).below ((Below.refl _ _).alloc (Nat.le_refl _) _) (by omega)
  go_wp2_with fail
  refine (nameShow_any tt _ (by omega) (by omega) ht1').mono ?_
  rintro e w2 ⟨rfl, hb2⟩
  have hbld2 := builder_kept hbld hb2.block
  have hz2 : w1.heap.size < w2.heap.size := by have := hb2.size; simp at this; omega
  have bk2 := (bk0.alloc (.cells #[.pointer none, .slice none 0 0] 82)).below hb2 (by simp; omega)
  have hbw2 : Below w.heap.size w w2 := (hbw.alloc (by omega) _).trans (hb2.mono (by simp; omega))
  have hlen : (showN tt).size ≤ 4097 := showN_size tt ht0 ht1
  clear hbld ht1' hb2
  go_wp2_with fail
  refine (builder_write w1.heap.size w1.heap.size [] _ _ hbld2 ?_ (by omega)).mono ?_
  · have e1 : (ByteArray.mk #[109, 97, 116, 99, 104, 32]).size = 6 := rfl
    have e2 : (ByteArray.mk #[10]).size = 1 := rfl
    simp only [ByteArray.size_append, List.length_nil]
    omega
  rintro e w3 ⟨rfl, hbld3, hB3, hO3⟩
  have htw3 := (ht.below hbw2 htw).below hB3 (by omega)
  have hS : ShowRel w w3 w1.heap.size (.bool true) (.int .i64 tt) (.slice A caps.length c) tt caps (.int .i64 0) := by
    refine ⟨0, rfl, Nat.zero_le _, ?_, hbw2.trans (hB3.mono (by omega)), hz1, bk2.others hO3 (by omega) (by decide), htw3⟩
    have e : (ByteArray.mk #[109, 97, 116, 99, 104, 32] ++ showN tt ++ ByteArray.mk #[10]).data.toList = showHead tt ++ (caps.take 0).flatMap showCap := by
      rw [bytes_app, bytes_app]; simp [showHead, showN]
    rw [List.nil_append, strCells_eq, e] at hbld3
    exact hbld3
  obtain ⟨⟨k0', k1', k2'⟩, _⟩ := (bk2.others hO3 (by omega) (by decide)).three
  clear hbld3 hB3 hO3 bk2 bk0 hbld2 htw3 hbw2
  go_wp2
  go_loopw [22] (fun i wr => ShowRel w wr w1.heap.size (.bool true) (.int .i64 tt) (.slice A caps.length c) tt caps i) (fun i _ => caps.length - (intOf i).toNat)
  case atStart => exact hS
  case round =>
    clear hS k0 k1 k2 k0' k1' k2'
    obtain ⟨k, rfl, hk, hbld, hb, hwb, bo, htr⟩ := hrel
    obtain ⟨⟨m0, m1, m2⟩, n0, n1, n2⟩ := bo.three
    have hbr := builder_lt hbld
    by_cases hkn : k < caps.length
    · obtain ⟨g, off, rfl, hg1, c0, c1, c2⟩ := hr.cap hkn
      have hxin := hm.caps caps[k] (List.getElem_mem hkn)
      have hcx := hcl caps[k] (List.getElem_mem hkn)
      obtain ⟨x, hx⟩ : ∃ x, caps[k] = x := ⟨_, rfl⟩
      rw [hx] at c0 c1 c2 hxin hcx
      obtain ⟨x0, x1, x2, x3⟩ := hxin
      dsimp only at x2
      have hxs := nameMay_le x3
      rw [show x.name.data.toList.length = x.name.size from by simp] at hxs
      have hfs := showN_size x.fr x0 (by omega)
      have hts := showN_size x.to (by omega) (by omega)
      have hfs' : (showN x.fr).size ≤ 4097 := hfs
      have hts' : (showN x.to).size ≤ 4097 := hts
      have e0 := (hb.cell (p := ⟨g, off + k * 3, none⟩) hg1).trans c0
      have e1 := (hb.cell (p := ⟨g, off + k * 3 + 1, none⟩) hg1).trans c1
      have e2 := (hb.cell (p := ⟨g, off + k * 3 + 2, none⟩) hg1).trans c2
      have HX := Lib.hid hx
      clear hx c0 c1 c2
      go_wp2_with fail
      have hS0 : SInv w wr w1.heap.size (showHead tt ++ (caps.take k).flatMap showCap) (.bool true) (.int .i64 tt) (.slice (some ⟨g, off, none⟩) caps.length c) x (wr.alloc (.cells #[.string x.name, .int .i64 x.fr, .int .i64 x.to] 45)) :=
        ⟨htr.below ((Below.refl _ _).alloc (Nat.le_refl _) _) htr.lt, builder_kept hbld (fun k hk => heap_alloc_old wr _ hk), hb.alloc hb.size _, bo.alloc _, Blk.new_ _ _ _⟩
      have hS1 : SInv w wr w1.heap.size (showHead tt ++ (caps.take k).flatMap showCap) (.bool true) (.int .i64 tt) (.slice (some ⟨g, off, none⟩) caps.length c) x (wr.alloc (.cells #[.string x.name, .int .i64 x.fr, .int .i64 x.to] 45)).drew :=
        hS0.below (Below.refl _ _).drew
      have hL : (showHead tt ++ (caps.take k).flatMap showCap).length ≤ 600000000 := by
        have e1 := flat_len showCap 9000 (caps.take k) (fun y hy => hcl y (List.mem_of_mem_take hy))
        have e2 : (caps.take k).length ≤ 65536 := by rw [List.length_take]; omega
        have e3 : (showHead tt).length ≤ 4104 := by simp only [showHead, List.length_append, List.length_cons, List.length_nil]; have : (Lib.itoa tt).length ≤ 4097 := hlen; omega
        rw [List.length_append]
        omega
      have b1 : ¬ 9223372036854775807 < x.name.size + 1 := by omega
      have b2 : ¬ 9223372036854775807 < x.name.size + 1 + (showN x.fr).size := by omega
      have b3 : ¬ 9223372036854775807 < x.name.size + 1 + (showN x.fr).size + 1 := by omega
      have b4 : ¬ 9223372036854775807 < x.name.size + 1 + (showN x.fr).size + 1 + (showN x.to).size := by omega
      have b5 : ¬ 9223372036854775807 < x.name.size + 1 + (showN x.fr).size + 1 + (showN x.to).size + 1 := by omega
      go_region_held3 (fun w' => w'.cell? ⟨wr.heap.size, 0, none⟩ = some (.string x.name) ∧ w'.cell? ⟨wr.heap.size, 1, none⟩ = some (.int .i64 x.fr) ∧ w'.cell? ⟨wr.heap.size, 2, none⟩ = some (.int .i64 x.to))
        (exact (SInv.c (by assumption)).three.1)
        (first | (go_at_call 44; refine (nameShow_any _ _ ?_ ?_ ?_).mono ?_; (focus omega); (focus omega); (focus exact SInv.tab (by assumption)); rintro e w2 ⟨rfl, hb2⟩; have hS2 := SInv.below (by assumption) hb2) | (go_at_call 43; refine (builder_write _ _ _ _ _ (SInv.bld (by assumption)) ?_ ?_).mono ?_; (focus (rw [byteCells_length]; have q1 : (ByteArray.mk #[32]).size = 1 := rfl; have q2 : (ByteArray.mk #[10]).size = 1 := rfl; simp only [ByteArray.size_append]; omega)); (focus exact Nat.le_of_lt (builder_lt (SInv.bld (by assumption)))); rintro e w2 ⟨rfl, hbl, hB, hO⟩; have hS2 := SInv.wrote (by assumption) rfl hbl hB hO hwb hbr ht))
      have hrel' : ShowRel w w2 w1.heap.size (.bool true) (.int .i64 tt) (.slice (some ⟨g, off, none⟩) caps.length c) tt caps (.int .i64 ((k : Int) + 1)) := by
        refine ⟨k + 1, by go_num, by omega, ?_, hS2.bel, hwb, hS2.o, hS2.tab⟩
        have e : showHead tt ++ (caps.take (k + 1)).flatMap showCap = showHead tt ++ (caps.take k).flatMap showCap ++ (x.name ++ ByteArray.mk #[32] ++ showN x.fr ++ ByteArray.mk #[32] ++ showN x.to ++ ByteArray.mk #[10]).data.toList := by
          rw [List.take_succ_eq_append_getElem hkn, HX.out, List.flatMap_append, List.append_assoc]
          simp only [bytes_app]
          simp [showCap, showN]
        rw [e]
        exact hS2.bld
      have HR := Lib.hid hrel'
      clear hrel' hS2 hbl hB hO hS0 hS1 hbld
      go_wp2
      go_roundw
      case rel => exact HR.out
      case measure => simp [intOf]; omega
    · obtain rfl : k = caps.length := by omega
      rw [List.take_length] at hbld
      go_wp2_with fail
      refine (Tryd.Builder_String_any _ _ _ _ hbld (Nat.le_of_lt hbr)).mono ?_
      rintro e w4 ⟨rfl, hb4⟩
      go_wp2
      go_ret2
      exact ⟨rfl, hb.trans (hb4.mono (by omega))⟩

/-- span.Show: the text of an outcome that may be; else ErrForm. -/
theorem spanShow_any (w : World) (x : OutV) (hr : x.rd w w.heap.size) (hf : x.o.fits) (ht : Tab w) :
    Calls Tryd.prog 23 #[x.val] w fun e w' => e = .returned (if mayB x.o 4096 then .tuple #[.string ⟨(showOut x.o).toArray⟩, .int .i64 0] else .tuple #[.string ⟨#[]⟩, .int .i64 4]) ∧ Below w.heap.size w w' := by
  cases hm : mayB x.o 4096
  · exact (spanShow_nomay w x hr hf hm).mono fun e w' ⟨he, hb⟩ => ⟨he, hb⟩
  · obtain ⟨⟨ok, tt, caps⟩, A, c⟩ := x
    cases ok
    · exact (spanShow_fail w A c tt caps hr hf hm).mono fun e w' ⟨he, hb⟩ => ⟨he, hb⟩
    · exact (spanShow_ok w A c tt caps hr hf ((good_iff _ _ rfl).1 hm) ht).mono fun e w' ⟨he, hb⟩ => ⟨he, hb⟩
end Go.Proofs.YtnmnbefbadhkgaaDoor
