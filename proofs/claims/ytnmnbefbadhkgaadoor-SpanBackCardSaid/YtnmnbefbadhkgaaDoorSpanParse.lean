/-
  WALK: span.Parse.
-/
import Derived.Test.YtnmnbefbadhkgaaDoorSpanLines
import Derived.Test.YtnmnbefbadhkgaaDoorNum
import Derived.Test.YtnmnbefbadhkgaaDoorSpanD
namespace Go.Proofs.YtnmnbefbadhkgaaDoor
open Go Go.RowKit
attribute [local go_sem] Oper.semAt_some

def matchW : List UInt8 := [109, 97, 116, 99, 104]
def stepP (o : Out) : List (List UInt8) → Option Out
  | [a, b] => if o.ok = false ∧ a = matchW ∧ (numS 4096 b).2 = 0 then some ⟨true, (numS 4096 b).1, o.caps⟩ else none
  | [a, b, c] => if o.ok = true ∧ (numS 4096 b).2 = 0 ∧ (numS 4096 c).2 = 0 then some ⟨true, o.to, o.caps ++ [⟨⟨a.toArray⟩, (numS 4096 b).1, (numS 4096 c).1⟩]⟩ else none
  | _ => none
theorem stepP2 (o : Out) (a b : List UInt8) : stepP o [a, b] = if o.ok = false ∧ a = matchW ∧ (numS 4096 b).2 = 0 then some ⟨true, (numS 4096 b).1, o.caps⟩ else none := rfl
theorem stepP3 (o : Out) (a b c : List UInt8) : stepP o [a, b, c] = if o.ok = true ∧ (numS 4096 b).2 = 0 ∧ (numS 4096 c).2 = 0 then some ⟨true, o.to, o.caps ++ [⟨⟨a.toArray⟩, (numS 4096 b).1, (numS 4096 c).1⟩]⟩ else none := rfl
def runP : Out → List (List (List UInt8)) → Option Out
  | o, [] => some o
  | o, w :: ws => match stepP o w with
    | some o' => runP o' ws
    | none => none
def parseS (s : List UInt8) : Option Out :=
  if s = [102, 97, 105, 108, 10] then some ⟨false, 0, []⟩ else match runP ⟨false, 0, []⟩ (linesS s) with
    | some o => if o.ok && mayB o 4096 then some o else none
    | none => none

def ParseSays (w : World) (s : List UInt8) (e : Ending) (w' : World) : Prop :=
  match parseS s with
  | some o => ∃ (A : Option Addr) (c : Nat), e = .returned (.tuple #[.agg #[.bool o.ok, .int .i64 o.to, .slice A o.caps.length c], .int .i64 0]) ∧ Reads w' w'.heap.size 3 A o.caps.length (capCells o.caps) ∧ o.caps.length ≤ maxLen ∧ Below w.heap.size w w'
  | none => e = .returned (.tuple #[.agg #[.bool false, .int .i64 0, .slice none 0 0], .int .i64 4]) ∧ Below w.heap.size w w'

theorem runP_next : ∀ (L : List (List (List UInt8))) (k : Nat) (o o' : Out) (w : List (List UInt8)), runP o (L.take k) = some o' → L[k]? = some w →
    (∀ o'', stepP o' w = some o'' → runP o (L.take (k + 1)) = some o'') ∧ (stepP o' w = none → runP o L = none)
  | [], k, o, o', w, _, h => by simp at h
  | v :: L, 0, o, o', w, h1, h2 => by
    simp only [List.take_zero, runP, Option.some.injEq] at h1
    simp only [List.getElem?_cons_zero, Option.some.injEq] at h2
    subst h1 h2
    refine ⟨fun o'' h => ?_, fun h => ?_⟩
    · simp [runP, h]
    · simp [runP, h]
  | v :: L, k + 1, o, o', w, h1, h2 => by
    simp only [List.take_succ_cons, runP] at h1 ⊢
    simp only [List.getElem?_cons_succ] at h2
    cases hs : stepP o v with
    | none => rw [hs] at h1; cases h1
    | some o1 =>
      rw [hs] at h1
      exact runP_next L k o1 o' w h1 h2

/-- What holds between two lines. -/
structure PInv (w : World) (o : Out) (A : Option Addr) (cap : Nat) (W : World) : Prop where
  r0 : Blk W w.heap.size 24 #[.bool false, .int .i64 0, .slice none 0 0]
  r1 : Blk W (w.heap.size + 1) 34 #[.int .i64 0]
  ob : Blk W (w.heap.size + 1 + 1) 24 #[.bool o.ok, .int .i64 o.to, .slice A o.caps.length cap]
  own : Owns W (w.heap.size + 4) 45 3 A o.caps.length cap (capCells o.caps)
  bel : Below w.heap.size w W
def PI (w : World) (L : List (List (List UInt8))) (k : Nat) (W : World) : Prop := ∃ (o : Out) (A : Option Addr) (cap : Nat), PInv w o A cap W ∧ runP ⟨false, 0, []⟩ (L.take k) = some o ∧ o.caps.length ≤ k ∧ isI64 o.to ∧ ∀ c ∈ o.caps, c.fits
def PX (w : World) (L : List (List (List UInt8))) (c : Code) (W : World) : Prop :=
  c = .ret ∧ Blk W w.heap.size 24 #[.bool false, .int .i64 0, .slice none 0 0] ∧ Blk W (w.heap.size + 1) 34 #[.int .i64 4] ∧ Below w.heap.size w W ∧ runP ⟨false, 0, []⟩ L = none
section
variable {w W W' : World} {o : Out} {A : Option Addr} {cap : Nat}
theorem PInv.grown (h : PInv w o A cap W) (hg : W.grownBy W' (some (w.heap.size + 3))) : PInv w o A cap W' :=
  ⟨h.r0.grown hg (by simp), h.r1.grown hg (by simp), h.ob.grown hg (by simp), h.own.grown hg (fun g hA => by have := (h.own.lt g hA).1; simp; omega), h.bel.grown hg h.bel.size (fun k e => by cases e; omega)⟩
theorem PInv.turn {B : Nat} (h : PInv w o A cap W) (ht : Turn B W W') (hB : w.heap.size ≤ B) : PInv w o A cap W' :=
  ⟨ht.blk h.r0, ht.blk h.r1, ht.blk h.ob, ht.owns h.own, h.bel.trans (ht.below hB h.bel.size)⟩
end

/-- What a round's body does to memory. -/
structure BStep (w : World) (W W' : World) : Prop where
  ko : KeepsFrom (w.heap.size + 4) W W'
  kp : Kp1 (w.heap.size + 3) W W'
  bel : Below w.heap.size W W'
section
variable {w W W' W'' : World}
theorem BStep.refl (w W : World) : BStep w W W := ⟨KeepsFrom.refl _ _, Kp1.refl _ _, Below.refl _ _⟩
theorem BStep.alloc (h : BStep w W W') (hz : w.heap.size + 4 ≤ W'.heap.size) (o : Obj) : BStep w W (W'.alloc o) :=
  ⟨h.ko.trans ((KeepsOthers.alloc W' o).from _), h.kp.trans ⟨by simp, fun k _ hl => heap_alloc_old W' o hl⟩, h.bel.alloc (by omega) o⟩
theorem BStep.set_ (h : BStep w W W') (hg : 0 < w.heap.size) {p : Addr} (hp : w.heap.size ≤ p.block) (hp' : p.block ≠ w.heap.size + 3) (v : Value) : BStep w W (W'.setCell p v) :=
  ⟨h.ko.trans ((KeepsOthers.setCell W' p v).from _), h.kp.trans ⟨by simp, fun k hk _ => Below.heap_setCell W' p v _ (by omega)⟩, h.bel.setCell hp v⟩
theorem BStep.below (h : BStep w W W') (hz : w.heap.size + 4 ≤ W'.heap.size) (hb : Below W'.heap.size W' W'') : BStep w W W'' :=
  ⟨h.ko.trans (KeepsFrom.of_below hb (Nat.le_refl _)), h.kp.trans ⟨hb.size, fun k _ hl => hb.block _ hl⟩, h.bel.trans (hb.mono (by omega))⟩
theorem BStep.grown (h : BStep w W W') (hg : 0 < w.heap.size) (hz : w.heap.size ≤ W'.heap.size) {row : Option Nat} (hgr : W'.grownBy W'' row) (hr : ∀ g, row = some g → w.heap.size + 4 ≤ g ∧ ∃ t cs, Blk W' g t cs) : BStep w W W'' :=
  ⟨h.ko.trans (KeepsFrom.of_grown hgr fun g e => (hr g e).2), h.kp.trans ⟨hgr.size, fun k hk hl => hgr.block _ hl (fun e => by have := (hr k e.symm).1; omega)⟩, h.bel.grown hgr hz (fun k e => by have := (hr k e).1; omega)⟩
theorem Owns.blk {base : Nat} {e : TypeId} {size n cap : Nat} {A : Option Addr} {xs : List Value} (h : Owns w base e size A n cap xs) : ∀ g, blockOf A = some g → base ≤ g ∧ ∃ t cs, Blk w g t cs := by
  intro g hg
  cases A with
  | none => cases hg
  | some ad =>
    obtain ⟨g', off, rfl, hb, cur, hc, _⟩ := h.2.2.2.2 ad rfl
    cases hg
    exact ⟨hb, e, cur, hc⟩
theorem BStep.size (h : BStep w W W') : W.heap.size ≤ W'.heap.size := h.ko.size

/-- The text is none: what the walk asks, and what it ends with. -/
theorem bad_cells {Wc w5 : World} (q0 : Blk Wc w.heap.size 24 #[.bool false, .int .i64 0, .slice none 0 0]) (q1 : Blk Wc (w.heap.size + 1) 34 #[.int .i64 0]) (hb : Below Wc.heap.size Wc w5) :
    ((w5.cell? ⟨w.heap.size, 0, none⟩ = some (.bool false) ∧ w5.cell? ⟨w.heap.size, 1, none⟩ = some (.int .i64 0) ∧ w5.cell? ⟨w.heap.size, 2, none⟩ = some (.slice none 0 0)) ∧ w5.frozen? ⟨w.heap.size, 0, none⟩ = false ∧ w5.frozen? ⟨w.heap.size, 1, none⟩ = false ∧ w5.frozen? ⟨w.heap.size, 2, none⟩ = false) ∧
    w5.cell? ⟨w.heap.size + 1, 0, none⟩ = some (.int .i64 0) ∧ w5.frozen? ⟨w.heap.size + 1, 0, none⟩ = false :=
  ⟨(q0.below hb q0.lt).three, (q1.below hb q1.lt).cell 0, (q1.below hb q1.lt).frozen 0⟩
theorem bad_end {L : List (List (List UInt8))} {Wc w5 : World} (hg : 0 < w.heap.size) (h0 : Below w.heap.size w W) (hW : w.heap.size + 4 ≤ W.heap.size) (q0 : Blk Wc w.heap.size 24 #[.bool false, .int .i64 0, .slice none 0 0]) (q1 : Blk Wc (w.heap.size + 1) 34 #[.int .i64 0])
    (hbs : BStep w W Wc) (hb : Below Wc.heap.size Wc w5) (hn : runP ⟨false, 0, []⟩ L = none) :
    KeepsFrom (w.heap.size + 4) W ((((w5.setCell ⟨w.heap.size, 0, none⟩ (.bool false)).setCell ⟨w.heap.size, 1, none⟩ (.int .i64 0)).setCell ⟨w.heap.size, 2, none⟩ (.slice none 0 0)).setCell ⟨w.heap.size + 1, 0, none⟩ (.int .i64 4)) ∧
    PX w L .ret ((((w5.setCell ⟨w.heap.size, 0, none⟩ (.bool false)).setCell ⟨w.heap.size, 1, none⟩ (.int .i64 0)).setCell ⟨w.heap.size, 2, none⟩ (.slice none 0 0)).setCell ⟨w.heap.size + 1, 0, none⟩ (.int .i64 4)) := by
  have hs := hbs.size
  have s5 := hbs.below (by omega) hb
  have s6 := (((s5.set_ hg (p := ⟨w.heap.size, 0, none⟩) (Nat.le_refl _) (by simp) (.bool false)).set_ hg (p := ⟨w.heap.size, 1, none⟩) (Nat.le_refl _) (by simp) (.int .i64 0)).set_ hg (p := ⟨w.heap.size, 2, none⟩) (Nat.le_refl _) (by simp) (.slice none 0 0)).set_ hg (p := ⟨w.heap.size + 1, 0, none⟩) (by simp) (by simp) (.int .i64 4)
  have b0 := ((((q0.below hb q0.lt).set_ 0 (.bool false)).set_ 1 (.int .i64 0)).set_ 2 (.slice none 0 0)).far (p := ⟨w.heap.size + 1, 0, none⟩) (by simp) (.int .i64 4)
  have b1 := ((((q1.below hb q1.lt).far (p := ⟨w.heap.size, 0, none⟩) (by simp) (.bool false)).far (p := ⟨w.heap.size, 1, none⟩) (by simp) (.int .i64 0)).far (p := ⟨w.heap.size, 2, none⟩) (by simp) (.slice none 0 0)).set_ 0 (.int .i64 4)
  exact ⟨s6.ko, rfl, by simpa using b0, by simpa using b1, h0.trans s6.bel, hn⟩
end

def failSt (w w5 : World) : World := (((w5.setCell ⟨w.heap.size, 0, none⟩ (.bool false)).setCell ⟨w.heap.size, 1, none⟩ (.int .i64 0)).setCell ⟨w.heap.size, 2, none⟩ (.slice none 0 0)).setCell ⟨w.heap.size + 1, 0, none⟩ (.int .i64 4)
theorem bad_fin {w Wc w5 : World} (h0 : Below w.heap.size w Wc) (q0 : Blk Wc w.heap.size 24 #[.bool false, .int .i64 0, .slice none 0 0]) (q1 : Blk Wc (w.heap.size + 1) 34 #[.int .i64 0]) (hb : Below Wc.heap.size Wc w5) :
    Blk (failSt w w5) w.heap.size 24 #[.bool false, .int .i64 0, .slice none 0 0] ∧ Blk (failSt w w5) (w.heap.size + 1) 34 #[.int .i64 4] ∧ Below w.heap.size w (failSt w w5) ∧ ∀ D, w.heap.size + 4 ≤ D → D < Wc.heap.size → (failSt w w5).heap[D]? = Wc.heap[D]? := by
  unfold failSt
  have b0 := ((((q0.below hb q0.lt).set_ 0 (.bool false)).set_ 1 (.int .i64 0)).set_ 2 (.slice none 0 0)).far (p := ⟨w.heap.size + 1, 0, none⟩) (by simp) (.int .i64 4)
  have b1 := ((((q1.below hb q1.lt).far (p := ⟨w.heap.size, 0, none⟩) (by simp) (.bool false)).far (p := ⟨w.heap.size, 1, none⟩) (by simp) (.int .i64 0)).far (p := ⟨w.heap.size, 2, none⟩) (by simp) (.slice none 0 0)).set_ 0 (.int .i64 4)
  refine ⟨by simpa using b0, by simpa using b1, ((((h0.trans (hb.mono h0.size)).setCell (p := ⟨w.heap.size, 0, none⟩) (Nat.le_refl _) _).setCell (p := ⟨w.heap.size, 1, none⟩) (Nat.le_refl _) _).setCell (p := ⟨w.heap.size, 2, none⟩) (Nat.le_refl _) _).setCell (p := ⟨w.heap.size + 1, 0, none⟩) (by simp) _, fun D hD hl => ?_⟩
  rw [Below.heap_setCell _ _ _ _ (by simp; omega), Below.heap_setCell _ _ _ _ (by simp; omega), Below.heap_setCell _ _ _ _ (by simp; omega), Below.heap_setCell _ _ _ _ (by simp; omega), hb.block D hl]
theorem app_end {w W2 w3 : World} {tt : Int} {caps : List Cap} {A A3 : Option Addr} {cap cap3 : Nat} (x : ByteArray) (N M : Nat) (hg : 0 < w.heap.size) (hlt : w.heap.size + 4 ≤ W2.heap.size) (h : PInv w ⟨true, tt, caps⟩ A cap W2)
    (hgr : (W2.alloc (.cells #[.string x, .int .i64 N, .int .i64 M] 45)).grownBy w3 (blockOf A))
    (hown : Owns w3 (w.heap.size + 4) 45 3 A3 (caps.length + 1) cap3 (capCells caps ++ [.string x, .int .i64 N, .int .i64 M])) :
    BStep w W2 (w3.setCell ⟨w.heap.size + 1 + 1, 2, none⟩ (.slice A3 (caps.length + 1) cap3)) ∧ PInv w ⟨true, tt, caps ++ [⟨x, N, M⟩]⟩ A3 cap3 (w3.setCell ⟨w.heap.size + 1 + 1, 2, none⟩ (.slice A3 (caps.length + 1) cap3)) := by
  have hne : ∀ k, k < w.heap.size + 4 → some k ≠ blockOf A := fun k hk e => by have := (h.own.lt _ e.symm).1; omega
  have hs : BStep w W2 w3 := ((BStep.refl w W2).alloc hlt _).grown hg (by simp; omega) hgr (fun g hg => (h.own.alloc _).blk g hg)
  have h3 : ∀ k, blockOf A3 = some k → w.heap.size + 4 ≤ k := fun k hk => (hown.lt k hk).1
  refine ⟨hs.set_ hg (by simp; omega) (by simp) _, ⟨?_, ?_, ?_, ?_, ?_⟩⟩
  · exact ((h.r0.alloc _).grown hgr (hne _ (by omega))).far (by simp; omega) _
  · exact ((h.r1.alloc _).grown hgr (hne _ (by omega))).far (by simp) _
  · have := ((h.ob.alloc (.cells #[.string x, .int .i64 N, .int .i64 M] 45)).grown hgr (hne _ (by omega))).set_ 2 (.slice A3 (caps.length + 1) cap3)
    simpa using this
  · rw [capCells_append]
    have := hown.setCell (p := ⟨w.heap.size + 1 + 1, 2, none⟩) (fun e => by have := h3 _ e; simp at this; omega) (.slice A3 (caps.length + 1) cap3)
    simpa [capCells, Cap.cells] using this
  · exact h.bel.trans (hs.set_ hg (by simp; omega) (by simp) _).bel
theorem str_back (x : ByteArray) : (⟨x.data.toList.toArray⟩ : ByteArray) = x := by cases x; simp

theorem spanLines_any (w : World) (s : ByteArray) : Calls Tryd.prog 46 #[.string s] w fun e w' => e = .returned (.func (.func 64) #[] #[.pointer (some ⟨w.heap.size, 0, none⟩)]) ∧ w' = w.alloc (.cells #[.string s] 9) := by
  go_enter Tryd.func46, Tryd.ntmps46
  go_wp2
  go_ret
  exact ⟨rfl, rfl⟩

set_option maxRecDepth 100000 in
set_option maxHeartbeats 2000000 in
theorem parse_any (w : World) (s : ByteArray) (hs : s.size < 4294967281) (hg : Glb w) : Calls Tryd.prog 24 #[.string s] w (ParseSays w s.data.toList) := by
  refine (callsIn_wide (n := 9)).1 ?_
  have hgl := hg.lt
  by_cases hf : s.data.toList = [102, 97, 105, 108, 10]
  · have hP : parseS s.data.toList = some ⟨false, 0, []⟩ := by unfold parseS; rw [if_pos hf]
    have HP := Lib.hid hP
    have e1 : (s.toList == [102, 97, 105, 108, 10]) = true := by rw [ByteArray.toList_eq, hf]; rfl
    clear hP hf
    refine callsIn_of_wp_marks Tryd.func24 rfl trivial ?_ rfl
    simp only [Tryd.ntmps24, List.size_toArray, List.length_cons, List.length_nil, Nat.reduceAdd, Nat.reduceSub, Array.replicate_succ, Array.replicate_zero, List.push_toArray, List.append_toArray, List.nil_append, List.cons_append]
    gi_wp2_with fail
    refine ⟨trivial, (callsIn_wide.2 (fail_any _)).mono ?_⟩
    rintro e w1 ⟨rfl, hb1⟩
    have hB1 := (((Below.refl _ w).alloc (Nat.le_refl _) (.cells #[.bool false, .int .i64 0, .slice none 0 0] 24)).alloc (by simp) (.cells #[.int .i64 0] 34)).trans (hb1.mono (by simp; omega))
    have b0 : Blk w1 w.heap.size 24 #[.bool false, .int .i64 0, .slice none 0 0] := ((Blk.new_ w _ _).alloc _).below hb1 (by simp; omega)
    have b1 : Blk w1 (w.heap.size + 1) 34 #[.int .i64 0] := by
      have := (Blk.new_ (w.alloc (.cells #[.bool false, .int .i64 0, .slice none 0 0] 24)) 34 #[.int .i64 0]).below hb1 (by simp)
      simpa using this
    obtain ⟨⟨c0, c1, c2⟩, f0, f1, f2⟩ := b0.three
    have d0 : w1.cell? ⟨w.heap.size + 1, 0, none⟩ = some (.int .i64 0) := b1.cell 0
    have d1 := b1.frozen 0
    clear hb1
    gi_wp2
    refine leaveM0 (v := .tuple #[.agg #[.bool false, .int .i64 0, .slice none 0 0], .int .i64 0]) rfl (by simp [results, Tryd.f24, go_sem, c0, c1, c2, d0]) ?_
    unfold ParseSays
    rw [HP.out]
    exact ⟨none, 0, rfl, Reads.none_, by simp, (below_st3 hB1 (Nat.le_refl _) _ _ _).setCell (p := ⟨w.heap.size + 1, 0, none⟩) (by simp) _⟩
  · have e1 : (s.toList == [102, 97, 105, 108, 10]) = false := by rw [ByteArray.toList_eq]; simpa using hf
    have HF := Lib.hid hf
    clear hf
    have hB0 := (((Below.refl _ w).alloc (Nat.le_refl _) (.cells #[.bool false, .int .i64 0, .slice none 0 0] 24)).alloc (by simp) (.cells #[.int .i64 0] 34)).alloc (by simp; omega) (.cells #[.bool false, .int .i64 0, .slice none 0 0] 24)
    have b0 := ((Blk.new_ w 24 #[.bool false, .int .i64 0, .slice none 0 0]).alloc (.cells #[.int .i64 0] 34)).alloc (.cells #[.bool false, .int .i64 0, .slice none 0 0] 24)
    have b1 := (Blk.new_ (w.alloc (.cells #[.bool false, .int .i64 0, .slice none 0 0] 24)) 34 #[.int .i64 0]).alloc (.cells #[.bool false, .int .i64 0, .slice none 0 0] 24)
    have b2 := Blk.new_ ((w.alloc (.cells #[.bool false, .int .i64 0, .slice none 0 0] 24)).alloc (.cells #[.int .i64 0] 34)) 24 #[.bool false, .int .i64 0, .slice none 0 0]
    simp only [World.size_alloc] at b1 b2
    refine callsIn_of_wp_marks Tryd.func24 rfl trivial ?_ rfl
    simp only [Tryd.ntmps24, List.size_toArray, List.length_cons, List.length_nil, Nat.reduceAdd, Nat.reduceSub, Array.replicate_succ, Array.replicate_zero, List.push_toArray, List.append_toArray, List.nil_append, List.cons_append]
    have HB0 := Lib.hid hB0
    have H0 := Lib.hid b0
    have H1 := Lib.hid b1
    have H2 := Lib.hid b2
    clear hB0 b0 b1 b2
    gi_wp2_with fail
    refine ⟨trivial, (callsIn_wide.2 (spanLines_any _ _)).mono ?_⟩
    rintro e w1 ⟨rfl, rfl⟩
    gi_wp2_with fail
    obtain ⟨W0, hW0⟩ : ∃ W0, (((w.alloc (.cells #[.bool false, .int .i64 0, .slice none 0 0] 24)).alloc (.cells #[.int .i64 0] 34)).alloc (.cells #[.bool false, .int .i64 0, .slice none 0 0] 24)) = W0 := ⟨_, rfl⟩
    rw [hW0] at HB0 H0 H1 H2 ⊢
    have hz : W0.heap.size = w.heap.size + 3 := by rw [← hW0]; simp
    have hz' : (W0.alloc (.cells #[.string s] 9)).heap.size = w.heap.size + 4 := by simp [hz]
    have hp0 : PInv w ⟨false, 0, []⟩ none 0 (W0.alloc (.cells #[.string s] 9)) := ⟨H0.out.alloc _, H1.out.alloc _, H2.out.alloc _, Owns.nil_ _ _ _ _, HB0.out.alloc (by omega) _⟩
    have hbx : Blk (W0.alloc (.cells #[.string s] 9)) (w.heap.size + 3) 9 #[.string s] := by rw [← hz]; exact Blk.new_ _ _ _
    have hgx : Glb (W0.alloc (.cells #[.string s] 9)) := (hg.below HB0.out hgl).keep (heap_alloc_old _ _ (by have := HB0.out.size; omega))
    clear hW0 HB0 H0 H1 H2
    refine wp_range (St := fun A A' => A.grownBy A' (some (w.heap.size + 3))) (Init := fun W => Blk W (w.heap.size + 3) 9 #[.string s] ∧ Glb W) rfl (enters_of Tryd.func64 (by kernel_rfl) rfl) (lines_seq (w.heap.size + 3) s hs (by omega))
      (fun A B h => KeepsFrom.of_grownBy h (fun j e => by cases e; omega)) (fun A B C h1 h2 => h1.trans h2) ?kb (fun k args W ⟨A, c, ws, h, _⟩ => by rw [h]; rfl)
      (PI w (linesS s.data.toList)) (PX w (linesS s.data.toList)) (fun k A B ⟨o, Av, cap, h, h2⟩ hst => ⟨o, Av, cap, h.grown hst, h2⟩) ?ix (fun k A B ⟨o, Av, cap, h, h2⟩ ht => ⟨o, Av, cap, h.turn ht (by omega), h2⟩) ?ixt ⟨_, none, 0, hp0, rfl, Nat.zero_le _, by unfold isI64; dsimp only; omega, fun c hc => by cases hc⟩ (fun o o' => ⟨(hbx.alloc _).alloc _, (hgx.keep (heap_alloc_old _ _ hgx.lt)).keep (heap_alloc_old _ _ (Nat.lt_of_lt_of_le hgx.lt (by simp)))⟩) ?round ?done ?stop
    case kb => exact fun A B h => Kp1.turn h (by omega) (by omega)
    case ix =>
      rintro c A B ⟨h1, h2, h3, h4, h5⟩ hst
      exact ⟨h1, h2.grown hst (by simp), h3.grown hst (by simp), h4.grown hst h4.size (fun k e => by cases e; omega), h5⟩
    case ixt =>
      rintro c A B ⟨h1, h2, h3, h4, h5⟩ ht
      exact ⟨h1, ht.blk h2, ht.blk h3, h4.trans (ht.below (by omega) h4.size), h5⟩
    case round =>
      rw [hz']
      rintro l k args W hk ⟨o, A, cap, hp, hrun, hcl, hto, hfit⟩ ⟨Aw, cw, ws, rfl, hws, hrw, hwm⟩ hlt
      gi_wp2
      refine ⟨(KeepsOthers.refl _).from _, Kp1.refl _ _, fun W2 ht => ?_⟩
      have hp2 := hp.turn ht (by omega)
      have hrw2 := ht.reads hrw
      have hlt2 : w.heap.size + 4 ≤ W2.heap.size ∧ W.heap.size ≤ W2.heap.size := by
        obtain ⟨row, h, hr⟩ := ht
        have := h.size
        omega
      obtain ⟨hlt2, hltW⟩ := hlt2
      have hnext := runP_next _ _ _ _ _ hrun hws
      have hkl := linesS_len s.data.toList
      have hsl : s.data.toList.length = s.size := by simp
      have hk32 : k < 4294967281 := by omega
      clear hkl hsl
      have HN := Lib.hid hnext
      have HP := Lib.hid hp2
      have HR := Lib.hid hrw2
      have HM := Lib.hid hwm
      have HT := Lib.hid hto
      have HF := Lib.hid hfit
      obtain ⟨⟨c0, c1, c2⟩, f0, f1, f2⟩ := hp2.ob.three
      clear hp hrun hws hrw ht hnext hp2 hrw2 hlt hp0 hbx hgx hwm hto hfit
      have z0 : w.heap.size < W2.heap.size := by omega
      have z1 : w.heap.size + 1 < W2.heap.size := by omega
      have z2 : w.heap.size + 1 + 1 < W2.heap.size := by omega
      obtain ⟨ok, tt, caps⟩ := o
      dsimp only at c0 c1 c2 HN HP HT HF hcl
      have HB0 := Lib.hid ((BStep.refl w W2).alloc hlt2 (.cells #[.string ⟨#[]⟩, .int .i64 0, .int .i64 0] 45))
      cases ok
      · by_cases h2 : ws.length = 2
        · obtain ⟨x, y, rfl⟩ : ∃ x y, ws = [x, y] := by
            match ws, h2 with
            | [x, y], _ => exact ⟨x, y, rfl⟩
          obtain ⟨g, off, rfl, hgW, hcc⟩ := HR.out.2 (by simp)
          have x0 : W2.cell? ⟨g, off, none⟩ = some (.string x) := hcc 0 _ rfl
          have x1 : W2.cell? ⟨g, off + 1, none⟩ = some (.string y) := hcc 1 _ rfl
          have hgne : ¬ g = w.heap.size + 1 + 1 := fun e => by
            subst e
            rw [HP.out.ob.cell] at x1
            match off, x1 with
            | 0, h => cases h
            | 1, h => cases h
            | n + 2, h => simp at h
          have hgz : g < W2.heap.size := by omega
          have hym := HM.out y (by simp)
          clear hcc
          by_cases hx : x.data.toList = matchW
          · have hx2 : (x.toList == [109, 97, 116, 99, 104]) = true := by rw [ByteArray.toList_eq, hx]; rfl
            obtain ⟨N, E, hNE⟩ : ∃ N E, numS 4096 y.data.toList = (N, E) := ⟨_, _, rfl⟩
            have hNm := numS_le 4096 y.data.toList
            rw [hNE] at hNm
            have hcon := fun W' => num_any' W' y 4096 hym (by omega)
            rw [hNE] at hcon
            have HCON := Lib.hid hcon
            have HX := Lib.hid hx
            have HNE := Lib.hid hNE
            have HB1 := Lib.hid ((((BStep.refl w W2).set_ hgl (p := ⟨w.heap.size + 1 + 1, 0, none⟩) (by simp; omega) (by simp) (.bool true)).set_ hgl (p := ⟨w.heap.size + 1 + 1, 1, none⟩) (by simp; omega) (by simp) (.int .i64 N)).alloc (by simpa using hlt2) (.cells #[.string ⟨#[]⟩, .int .i64 0, .int .i64 0] 45))
            clear hx hNE hcon
            gi_wp2_with fail
            refine ⟨trivial, (CallsIn.inRound l (callsIn_wide.2 (HCON.out _))).mono ?_⟩
            rintro e w3 ⟨rfl, rfl⟩
            by_cases hE : E = 0
            · subst hE
              gi_wp2
              have hst : stepP ⟨false, tt, caps⟩ [x.data.toList, y.data.toList] = some ⟨true, N, caps⟩ := by
                rw [stepP2, HNE.out]
                simp [HX.out]
              refine ⟨HB1.out.ko, HB1.out.kp, ⟨true, N, caps⟩, A, cap, ⟨?_, ?_, ?_, ?_, ?_⟩, HN.out.1 _ hst, by dsimp only; omega, by unfold isI64; dsimp only; omega, HF.out⟩
              · exact ((HP.out.r0.far (by simp; omega) _).far (by simp; omega) _).alloc _
              · exact ((HP.out.r1.far (by simp) _).far (by simp) _).alloc _
              · have := ((HP.out.ob.set_ 0 (.bool true)).set_ 1 (.int .i64 N)).alloc (.cells #[.string ⟨#[]⟩, .int .i64 0, .int .i64 0] 45)
                simpa using this
              · exact ((HP.out.own.setCell (fun e => by have := (HP.out.own.lt _ e).1; simp at this; omega) _).setCell (fun e => by have := (HP.out.own.lt _ e).1; simp at this; omega) _).alloc _
              · exact HP.out.bel.trans HB1.out.bel
            · have hE2 : ((E : Int) != 0) = true := by simp; omega
              have hst : stepP ⟨false, tt, caps⟩ [x.data.toList, y.data.toList] = none := by
                rw [stepP2, HNE.out]
                simp [hE]
              have HST := Lib.hid hst
              clear hE hst
              gi_wp2_with fail
              refine ⟨trivial, (CallsIn.inRound l (callsIn_wide.2 (fail_any _))).mono ?_⟩
              rintro e w5 ⟨rfl, hb5⟩
              obtain ⟨⟨⟨k0, k1, k2⟩, m0, m1, m2⟩, n0, n1⟩ := bad_cells (((HP.out.r0.far (by simp; omega) _).far (by simp; omega) _).alloc _) (((HP.out.r1.far (by simp) _).far (by simp) _).alloc _) hb5
              have HE := Lib.hid (bad_end hgl HP.out.bel hlt2 (((HP.out.r0.far (by simp; omega) _).far (by simp; omega) _).alloc _) (((HP.out.r1.far (by simp) _).far (by simp) _).alloc _) HB1.out hb5 (HN.out.2 HST.out))
              clear hb5
              gi_wp2
              exact HE.out
          · have hx2 : (x.toList == [109, 97, 116, 99, 104]) = false := by rw [ByteArray.toList_eq]; simpa [matchW] using hx
            have hst : stepP ⟨false, tt, caps⟩ [x.data.toList, y.data.toList] = none := by
              rw [stepP2, if_neg (fun h => hx h.2.1)]
            have HST := Lib.hid hst
            clear hx hst
            gi_wp2_with fail
            refine ⟨trivial, (CallsIn.inRound l (callsIn_wide.2 (fail_any _))).mono ?_⟩
            rintro e w5 ⟨rfl, hb5⟩
            obtain ⟨⟨⟨k0, k1, k2⟩, m0, m1, m2⟩, n0, n1⟩ := bad_cells (HP.out.r0.alloc _) (HP.out.r1.alloc _) hb5
            have HE := Lib.hid (bad_end hgl HP.out.bel hlt2 (HP.out.r0.alloc _) (HP.out.r1.alloc _) HB0.out hb5 (HN.out.2 HST.out))
            clear hb5
            gi_wp2
            exact HE.out
        · have hl2 : ((ws.length : Int) == 2) = false := by simp; omega
          have hst : stepP ⟨false, tt, caps⟩ (ws.map (·.data.toList)) = none := by
            match ws, h2 with
            | [], _ => rfl
            | [_], _ => rfl
            | [_, _], h => simp at h
            | [_, _, _], _ => simp [stepP]
            | _ :: _ :: _ :: _ :: _, _ => rfl
          have HST := Lib.hid hst
          clear h2 hst
          gi_wp2_with fail
          refine ⟨trivial, (CallsIn.inRound l (callsIn_wide.2 (fail_any _))).mono ?_⟩
          rintro e w5 ⟨rfl, hb5⟩
          obtain ⟨⟨⟨k0, k1, k2⟩, m0, m1, m2⟩, n0, n1⟩ := bad_cells (HP.out.r0.alloc _) (HP.out.r1.alloc _) hb5
          have HE := Lib.hid (bad_end hgl HP.out.bel hlt2 (HP.out.r0.alloc _) (HP.out.r1.alloc _) HB0.out hb5 (HN.out.2 HST.out))
          clear hb5
          gi_wp2
          exact HE.out
      · by_cases h3 : ws.length = 3
        · obtain ⟨x, y, z, rfl⟩ : ∃ x y z, ws = [x, y, z] := by
            match ws, h3 with
            | [x, y, z], _ => exact ⟨x, y, z, rfl⟩
          obtain ⟨g, off, rfl, hgW, hcc⟩ := HR.out.2 (by simp)
          have x0 : W2.cell? ⟨g, off, none⟩ = some (.string x) := hcc 0 _ rfl
          have x1 : W2.cell? ⟨g, off + 1, none⟩ = some (.string y) := hcc 1 _ rfl
          have x2 : W2.cell? ⟨g, off + 2, none⟩ = some (.string z) := hcc 2 _ rfl
          have hgz : g < W2.heap.size := by omega
          have hgz2 : ¬ g = W2.heap.size := by omega
          have hxm := HM.out x (by simp)
          have hym := HM.out y (by simp)
          have hzm := HM.out z (by simp)
          obtain ⟨N, E, hNE⟩ : ∃ N E, numS 4096 y.data.toList = (N, E) := ⟨_, _, rfl⟩
          obtain ⟨M, F, hMF⟩ : ∃ N E, numS 4096 z.data.toList = (N, E) := ⟨_, _, rfl⟩
          have hNm := numS_le 4096 y.data.toList
          have hMm := numS_le 4096 z.data.toList
          rw [hNE] at hNm
          rw [hMF] at hMm
          have hcy := fun W' => num_any' W' y 4096 hym (by omega)
          have hcz := fun W' => num_any' W' z 4096 hzm (by omega)
          rw [hNE] at hcy
          rw [hMF] at hcz
          have HCY := Lib.hid hcy
          have HCZ := Lib.hid hcz
          have HNE := Lib.hid hNE
          have HMF := Lib.hid hMF
          have HXM := Lib.hid hxm
          clear hcc hcy hcz hNE hMF hxm hym hzm h3
          gi_wp2_with fail
          refine ⟨trivial, (CallsIn.inRound l (callsIn_wide.2 (HCY.out _))).mono ?_⟩
          rintro e w3 ⟨rfl, rfl⟩
          gi_wp2_with fail
          refine ⟨trivial, (CallsIn.inRound l (callsIn_wide.2 (HCZ.out _))).mono ?_⟩
          rintro e w3 ⟨rfl, rfl⟩
          have hn1 := hk32
          by_cases hE : E = 0
          · subst hE
            by_cases hF : F = 0
            · subst hF
              gi_wp2_with
                (gi_at_builtin; refine wpListIn_app_new (W2.alloc (.cells #[.string x, .int .i64 N, .int .i64 M] 45)) [.string x, .int .i64 N, .int .i64 M] 45 rfl (.tmp 70) (.tmp 72) 22 rfl 45 _ 3 32 Tryd.underlying22 infoCap rfl (w.heap.size + 4) A caps.length cap (capCells caps) (W2.heap.size + 1) 1 1 rfl rfl (HP.out.own.alloc _) (by simp) rfl ?_ ?_ ?_ ?_ ?_; (focus (intro u hu; simp at hu; rcases hu with rfl | rfl | rfl <;> rfl)); (focus omega); (focus omega); (focus (simp; omega)); intro A3 cap3 w3 hown3 hg3 hA3 hA3n; have hob3 := (HP.out.ob.alloc (.cells #[.string x, .int .i64 N, .int .i64 M] 45)).grown hg3 (fun e => by have := (HP.out.own.lt _ e.symm).1; omega); have p0 : w3.cell? ⟨w.heap.size + 1 + 1, 2, none⟩ = some (.slice A caps.length cap) := hob3.cell 2; have p1 := hob3.frozen 2; have HO3 := Lib.hid hob3; have HW3 := Lib.hid hown3; have HG3 := Lib.hid hg3; clear hob3 hown3 hg3 hA3 hA3n)
              obtain ⟨hbs, hpi⟩ := app_end x N M hgl hlt2 HP.out HG3.out HW3.out
              have hst : stepP ⟨true, tt, caps⟩ [x.data.toList, y.data.toList, z.data.toList] = some ⟨true, tt, caps ++ [⟨x, N, M⟩]⟩ := by
                rw [stepP3, HNE.out, HMF.out, str_back]
                simp
              refine ⟨hbs.ko, hbs.kp, _, A3, cap3, hpi, HN.out.1 _ hst, by simp; omega, HT.out, fun c hc => ?_⟩
              rcases List.mem_append.1 hc with hc | hc
              · exact HF.out c hc
              · simp only [List.mem_singleton] at hc
                subst hc
                exact ⟨HXM.out, by unfold isI64; dsimp only; omega, by unfold isI64; dsimp only; omega⟩
            · have hF2 : ((F : Int) != 0) = true := by simp; omega
              have hst : stepP ⟨true, tt, caps⟩ [x.data.toList, y.data.toList, z.data.toList] = none := by
                rw [stepP3, HNE.out, HMF.out]
                simp [hF]
              have HST := Lib.hid hst
              clear hst hF
              gi_wp2_with
                (gi_at_builtin; refine wpListIn_app_new (W2.alloc (.cells #[.string x, .int .i64 N, .int .i64 M] 45)) [.string x, .int .i64 N, .int .i64 M] 45 rfl (.tmp 70) (.tmp 72) 22 rfl 45 _ 3 32 Tryd.underlying22 infoCap rfl (w.heap.size + 4) A caps.length cap (capCells caps) (W2.heap.size + 1) 1 1 rfl rfl (HP.out.own.alloc _) (by simp) rfl ?_ ?_ ?_ ?_ ?_; (focus (intro u hu; simp at hu; rcases hu with rfl | rfl | rfl <;> rfl)); (focus omega); (focus omega); (focus (simp; omega)); intro A3 cap3 w3 hown3 hg3 hA3 hA3n; have hob3 := (HP.out.ob.alloc (.cells #[.string x, .int .i64 N, .int .i64 M] 45)).grown hg3 (fun e => by have := (HP.out.own.lt _ e.symm).1; omega); have p0 : w3.cell? ⟨w.heap.size + 1 + 1, 2, none⟩ = some (.slice A caps.length cap) := hob3.cell 2; have p1 := hob3.frozen 2; have HO3 := Lib.hid hob3; have HW3 := Lib.hid hown3; have HG3 := Lib.hid hg3; clear hob3 hown3 hg3 hA3 hA3n)
              have HAP := Lib.hid (app_end x N M hgl hlt2 HP.out HG3.out HW3.out)
              refine ⟨trivial, (CallsIn.inRound l (callsIn_wide.2 (fail_any _))).mono ?_⟩
              rintro e w5 ⟨rfl, hb5⟩
              obtain ⟨⟨⟨k0, k1, k2⟩, m0, m1, m2⟩, n0, n1⟩ := bad_cells HAP.out.2.r0 HAP.out.2.r1 hb5
              have HE := Lib.hid (bad_end hgl HP.out.bel hlt2 HAP.out.2.r0 HAP.out.2.r1 HAP.out.1 hb5 (HN.out.2 HST.out))
              clear hb5
              gi_wp2
              exact HE.out
          · have hE2 : ((E : Int) != 0) = true := by simp; omega
            have hst : stepP ⟨true, tt, caps⟩ [x.data.toList, y.data.toList, z.data.toList] = none := by
              rw [stepP3, HNE.out, HMF.out]
              simp [hE]
            have HST := Lib.hid hst
            clear hst hE
            gi_wp2_with
              (gi_at_builtin; refine wpListIn_app_new (W2.alloc (.cells #[.string x, .int .i64 N, .int .i64 M] 45)) [.string x, .int .i64 N, .int .i64 M] 45 rfl (.tmp 70) (.tmp 72) 22 rfl 45 _ 3 32 Tryd.underlying22 infoCap rfl (w.heap.size + 4) A caps.length cap (capCells caps) (W2.heap.size + 1) 1 1 rfl rfl (HP.out.own.alloc _) (by simp) rfl ?_ ?_ ?_ ?_ ?_; (focus (intro u hu; simp at hu; rcases hu with rfl | rfl | rfl <;> rfl)); (focus omega); (focus omega); (focus (simp; omega)); intro A3 cap3 w3 hown3 hg3 hA3 hA3n; have hob3 := (HP.out.ob.alloc (.cells #[.string x, .int .i64 N, .int .i64 M] 45)).grown hg3 (fun e => by have := (HP.out.own.lt _ e.symm).1; omega); have p0 : w3.cell? ⟨w.heap.size + 1 + 1, 2, none⟩ = some (.slice A caps.length cap) := hob3.cell 2; have p1 := hob3.frozen 2; have HO3 := Lib.hid hob3; have HW3 := Lib.hid hown3; have HG3 := Lib.hid hg3; clear hob3 hown3 hg3 hA3 hA3n)
            have HAP := Lib.hid (app_end x N M hgl hlt2 HP.out HG3.out HW3.out)
            refine ⟨trivial, (CallsIn.inRound l (callsIn_wide.2 (fail_any _))).mono ?_⟩
            rintro e w5 ⟨rfl, hb5⟩
            obtain ⟨⟨⟨k0, k1, k2⟩, m0, m1, m2⟩, n0, n1⟩ := bad_cells HAP.out.2.r0 HAP.out.2.r1 hb5
            have HE := Lib.hid (bad_end hgl HP.out.bel hlt2 HAP.out.2.r0 HAP.out.2.r1 HAP.out.1 hb5 (HN.out.2 HST.out))
            clear hb5
            gi_wp2
            exact HE.out
        · have hl2 : ((ws.length : Int) == 3) = false := by simp; omega
          have hst : stepP ⟨true, tt, caps⟩ (ws.map (·.data.toList)) = none := by
            match ws, h3 with
            | [], _ => rfl
            | [_], _ => rfl
            | [_, _], _ => simp [stepP]
            | [_, _, _], h => simp at h
            | _ :: _ :: _ :: _ :: _, _ => rfl
          have HST := Lib.hid hst
          clear h3 hst
          gi_wp2_with fail
          refine ⟨trivial, (CallsIn.inRound l (callsIn_wide.2 (fail_any _))).mono ?_⟩
          rintro e w5 ⟨rfl, hb5⟩
          obtain ⟨⟨⟨k0, k1, k2⟩, m0, m1, m2⟩, n0, n1⟩ := bad_cells (HP.out.r0.alloc _) (HP.out.r1.alloc _) hb5
          have HE := Lib.hid (bad_end hgl HP.out.bel hlt2 (HP.out.r0.alloc _) (HP.out.r1.alloc _) HB0.out hb5 (HN.out.2 HST.out))
          clear hb5
          gi_wp2
          exact HE.out
    case done =>
      rw [hz']
      rintro D W hD ⟨o, A, cap, hp, hrun, hcl, hto, hfit⟩ hK
      rw [List.take_length] at hrun
      have hcl2 : o.caps.length ≤ 4294967281 := by
        have h1 := linesS_len s.data.toList
        have h2 : s.data.toList.length = s.size := by simp
        omega
      have hDl : D < W.heap.size := (Array.getElem?_eq_some_iff.1 hK).1
      obtain ⟨⟨c0, c1, c2⟩, f0, f1, f2⟩ := hp.ob.three
      have HP := Lib.hid hp
      have HR := Lib.hid hrun
      have HK := Lib.hid hK
      have HT := Lib.hid hto
      have HFT := Lib.hid hfit
      clear hp hrun hcl hto hfit hK hp0 hbx hgx
      obtain ⟨ok, tt, caps⟩ := o
      dsimp only at c0 c1 c2 HP HT HFT hcl2
      cases ok
      · gi_wp2_with fail
        refine ⟨trivial, ?_⟩
        gi_wp2_with fail
        refine ⟨trivial, (callsIn_wide.2 (fail_any _)).mono ?_⟩
        rintro e w5 ⟨rfl, hb5⟩
        obtain ⟨⟨⟨k0, k1, k2⟩, m0, m1, m2⟩, n0, n1⟩ := bad_cells HP.out.r0 HP.out.r1 hb5
        have HE := Lib.hid (bad_fin HP.out.bel HP.out.r0 HP.out.r1 hb5)
        have HKD := Lib.hid HK.out
        clear hb5
        gi_wp2
        refine leaveM1 (B := w.heap.size + 4) rfl hD (((HE.out.2.2.2 D hD (by omega)).trans HKD.out : (failSt w w5).heap[D]? = _)) fun w' ht => ?_
        have b0 := ht.blk HE.out.1
        have b1 := ht.blk HE.out.2.1
        obtain ⟨⟨c0, c1, c2⟩, _⟩ := b0.three
        have d0 : w'.cell? ⟨w.heap.size + 1, 0, none⟩ = some (.int .i64 4) := b1.cell 0
        refine ⟨.tuple #[.agg #[.bool false, .int .i64 0, .slice none 0 0], .int .i64 4], by simp [results, Tryd.f24, go_sem, c0, c1, c2, d0], ?_⟩
        have hP : parseS s.data.toList = none := by
          unfold parseS
          rw [if_neg HF.out, HR.out]
          rfl
        unfold ParseSays
        rw [hP]
        exact ⟨rfl, HE.out.2.2.1.trans (ht.below (by omega) HE.out.2.2.1.size)⟩
      · have hmay := spanMay_at W W.heap.size A cap true tt 4096 caps HP.out.own.rd (Nat.le_refl _) ⟨HT.out, by unfold maxLen; dsimp only; omega, HFT.out⟩
        obtain ⟨m, hm⟩ : ∃ m, mayB ⟨true, tt, caps⟩ 4096 = m := ⟨_, rfl⟩
        rw [hm] at hmay
        have HM := Lib.hid hm
        have HMAY := Lib.hid hmay
        clear hm hmay
        gi_wp2_with fail
        refine ⟨trivial, (callsIn_wide.2 HMAY.out).mono ?_⟩
        rintro e w1 ⟨rfl, hb1⟩
        have hl1 := hb1.size
        have r0 := HP.out.r0.below hb1 HP.out.r0.lt
        have r1 := HP.out.r1.below hb1 HP.out.r1.lt
        have ob := HP.out.ob.below hb1 HP.out.ob.lt
        have hk1 := (hb1.block D hDl).trans HK.out
        have own1 := HP.out.own.below hb1 (Nat.le_refl _)
        have bel1 := HP.out.bel.trans (hb1.mono HP.out.bel.size)
        have R0 := Lib.hid r0
        have R1 := Lib.hid r1
        have OB := Lib.hid ob
        have HK1 := Lib.hid hk1
        have OW := Lib.hid own1
        have BL := Lib.hid bel1
        clear c0 c1 c2 f0 f1 f2 hb1 r0 r1 ob hk1 own1 bel1
        cases m
        · gi_wp2_with fail
          refine ⟨trivial, (callsIn_wide.2 (fail_any _)).mono ?_⟩
          rintro e w5 ⟨rfl, hb5⟩
          obtain ⟨⟨⟨k0, k1, k2⟩, m0, m1, m2⟩, n0, n1⟩ := bad_cells R0.out R1.out hb5
          have HE := Lib.hid (bad_fin BL.out R0.out R1.out hb5)
          have HKD := Lib.hid HK1.out
          clear hb5
          gi_wp2
          refine leaveM1 (B := w.heap.size + 4) rfl hD (((HE.out.2.2.2 D hD (by omega)).trans HKD.out : (failSt w w5).heap[D]? = _)) fun w' ht => ?_
          have b0 := ht.blk HE.out.1
          have b1 := ht.blk HE.out.2.1
          obtain ⟨⟨c0, c1, c2⟩, _⟩ := b0.three
          have d0 : w'.cell? ⟨w.heap.size + 1, 0, none⟩ = some (.int .i64 4) := b1.cell 0
          refine ⟨.tuple #[.agg #[.bool false, .int .i64 0, .slice none 0 0], .int .i64 4], by simp [results, Tryd.f24, go_sem, c0, c1, c2, d0], ?_⟩
          have hP : parseS s.data.toList = none := by
            unfold parseS
            rw [if_neg HF.out, HR.out]
            (simp [HM.out])
          unfold ParseSays
          rw [hP]
          exact ⟨rfl, HE.out.2.2.1.trans (ht.below (by omega) HE.out.2.2.1.size)⟩
        · obtain ⟨⟨c0, c1, c2⟩, _⟩ := OB.out.three
          obtain ⟨⟨k0, k1, k2⟩, m0, m1, m2⟩ := R0.out.three
          have n0 : w1.cell? ⟨w.heap.size + 1, 0, none⟩ = some (.int .i64 0) := R1.out.cell 0
          have n1 := R1.out.frozen 0
          gi_wp2
          have b0 := (((R0.out.set_ 0 (.bool true)).set_ 1 (.int .i64 tt)).set_ 2 (.slice A caps.length cap)).far (p := ⟨w.heap.size + 1, 0, none⟩) (by simp) (.int .i64 0)
          have b1 := (((R1.out.far (p := ⟨w.heap.size, 0, none⟩) (by simp) (.bool true)).far (p := ⟨w.heap.size, 1, none⟩) (by simp) (.int .i64 tt)).far (p := ⟨w.heap.size, 2, none⟩) (by simp) (.slice A caps.length cap)).set_ 0 (.int .i64 0)
          have own2 := (((OW.out.setCell (p := ⟨w.heap.size, 0, none⟩) (fun e => by have := (OW.out.lt _ e).1; simp at this; omega) (.bool true)).setCell (p := ⟨w.heap.size, 1, none⟩) (fun e => by have := (OW.out.lt _ e).1; simp at this; omega) (.int .i64 tt)).setCell (p := ⟨w.heap.size, 2, none⟩) (fun e => by have := (OW.out.lt _ e).1; simp at this; omega) (.slice A caps.length cap)).setCell (p := ⟨w.heap.size + 1, 0, none⟩) (fun e => by have := (OW.out.lt _ e).1; simp at this) (.int .i64 0)
          have bel2 := (((BL.out.setCell (p := ⟨w.heap.size, 0, none⟩) (Nat.le_refl _) (.bool true)).setCell (p := ⟨w.heap.size, 1, none⟩) (Nat.le_refl _) (.int .i64 tt)).setCell (p := ⟨w.heap.size, 2, none⟩) (Nat.le_refl _) (.slice A caps.length cap)).setCell (p := ⟨w.heap.size + 1, 0, none⟩) (by simp) (.int .i64 0)
          refine leaveM1 (B := w.heap.size + 4) rfl hD (by rw [Below.heap_setCell _ _ _ _ (by simp; omega), Below.heap_setCell _ _ _ _ (by simp; omega), Below.heap_setCell _ _ _ _ (by simp; omega), Below.heap_setCell _ _ _ _ (by simp; omega), HK1.out]) fun w' ht => ?_
          have b0' := ht.blk (by simpa using b0 : Blk _ w.heap.size 24 #[.bool true, .int .i64 tt, .slice A caps.length cap])
          have b1' := ht.blk (by simpa using b1 : Blk _ (w.heap.size + 1) 34 #[.int .i64 0])
          obtain ⟨⟨c0, c1, c2⟩, _⟩ := b0'.three
          have d0 : w'.cell? ⟨w.heap.size + 1, 0, none⟩ = some (.int .i64 0) := b1'.cell 0
          refine ⟨.tuple #[.agg #[.bool true, .int .i64 tt, .slice A caps.length cap], .int .i64 0], by simp [results, Tryd.f24, go_sem, c0, c1, c2, d0], ?_⟩
          have hP : parseS s.data.toList = some ⟨true, tt, caps⟩ := by
            unfold parseS
            rw [if_neg HF.out, HR.out]
            simp [HM.out]
          unfold ParseSays
          rw [hP]
          exact ⟨A, cap, rfl, (ht.owns own2).rd, by unfold maxLen; dsimp only; omega, bel2.trans (ht.below (by omega) bel2.size)⟩
    case stop =>
      rw [hz']
      rintro D c W hD ⟨rfl, h0, h1, hb, hn⟩ hK
      gi_wp2
      refine leaveM1 (B := w.heap.size + 4) rfl hD hK fun w' ht => ?_
      have b0 := ht.blk h0
      have b1 := ht.blk h1
      obtain ⟨⟨c0, c1, c2⟩, _⟩ := b0.three
      have d0 : w'.cell? ⟨w.heap.size + 1, 0, none⟩ = some (.int .i64 4) := b1.cell 0
      refine ⟨.tuple #[.agg #[.bool false, .int .i64 0, .slice none 0 0], .int .i64 4], by simp [results, Tryd.f24, go_sem, c0, c1, c2, d0], ?_⟩
      have hP : parseS s.data.toList = none := by
        unfold parseS
        rw [if_neg HF.out, hn]
      unfold ParseSays
      rw [hP]
      exact ⟨rfl, hb.trans (ht.below (by omega) hb.size)⟩
end Go.Proofs.YtnmnbefbadhkgaaDoor
