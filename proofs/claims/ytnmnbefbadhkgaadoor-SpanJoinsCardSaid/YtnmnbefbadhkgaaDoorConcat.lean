/-
  slices.Concat AT captures.
-/
import Derived.Test.YtnmnbefbadhkgaaDoorSpanD
import Derived.Test.YtnmnbefbadhkgaaDoorMemB
namespace Go.Proofs.YtnmnbefbadhkgaaDoor
open Go Go.RowKit

/-- A slice of captures as a value. -/
structure CapsV where
  cs : List Cap
  A : Option Addr
  c : Nat
def CapsV.val (x : CapsV) : Value := .slice x.A x.cs.length x.c
def CapsV.rd (x : CapsV) (w : World) (B : Nat) : Prop := Reads w B 3 x.A x.cs.length (capCells x.cs)
def allCaps (l : List CapsV) : List Cap := l.flatMap CapsV.cs
theorem allCaps_take (l : List CapsV) (k : Nat) (hk : k < l.length) : allCaps (l.take (k + 1)) = allCaps (l.take k) ++ l[k].cs := by
  unfold allCaps
  rw [List.take_succ_eq_append_getElem hk, List.flatMap_append]
  simp
theorem allCaps_split (l : List CapsV) (k : Nat) : (allCaps (l.take k)).length ≤ (allCaps l).length := by
  unfold allCaps
  have : l.flatMap CapsV.cs = (l.take k).flatMap CapsV.cs ++ (l.drop k).flatMap CapsV.cs := by rw [← List.flatMap_append, List.take_append_drop]
  rw [this, List.length_append]
  omega

def AppRel (w wr : World) (l : List CapsV) (a i : Value) : Prop :=
  ∃ (k : Nat) (A' : Option Addr) (cap' : Nat), i = .int .i64 k ∧ k ≤ l.length ∧ a = .slice A' (allCaps (l.take k)).length cap' ∧ Owns wr w.heap.size 45 3 A' (allCaps (l.take k)).length cap' (capCells (allCaps (l.take k))) ∧ Below w.heap.size w wr

set_option maxRecDepth 100000 in
set_option maxHeartbeats 1000000 in
theorem grow_any (w : World) (n : Nat) (hn : n * 32 ≤ 140737488355328) :
    Calls Tryd.prog 58 #[.slice none 0 0, .int .i64 n] w fun e w' => ∃ A' cap', e = .returned (.slice A' 0 cap') ∧ Owns w' w.heap.size 45 3 A' 0 cap' [] ∧ Below w.heap.size w w' := by
  go_enter Tryd.func58, Tryd.ntmps58
  by_cases h0 : n = 0
  · subst h0
    go_wp2
    go_ret
    exact ⟨none, 0, rfl, Owns.nil_ _ _ _ _, Below.refl _ _⟩
  · have hp : (0 : Int) < (n : Int) := by omega
    go_wp2_with (at_builtin; go_loud (refine wpList_app_zeros w rfl (.tmp 20) (.tmp 21) 22 3 rfl 45 _ 3 32 .i64 .i64 Tryd.underlying22 Tryd.underlying3 infoCap rfl (by decide) none 0 n rfl rfl ?_ ?_ hn ?_; (focus omega); (focus omega); intro cap' w1 zs hown hb))
    have hs := hown.2.1
    have hO := Lib.hid (hown.take (m := 0) (Nat.zero_le _))
    clear hown
    go_wp2
    go_ret
    exact ⟨_, cap', rfl, by simpa using hO.out, hb⟩

set_option maxRecDepth 100000 in
set_option maxHeartbeats 1000000 in
theorem concat_any (w : World) (B : Nat) (A : Option Addr) (c : Nat) (l : List CapsV) (hr : Reads w B 1 A l.length (l.map CapsV.val)) (hB : B ≤ w.heap.size) (hf : ∀ x ∈ l, x.rd w B) (hl : l.length ≤ maxLen) (hn : (allCaps l).length * 32 ≤ 140737488355328) :
    Calls Tryd.prog 39 #[.slice A l.length c] w (CloneSays w (allCaps l)) := by
  unfold maxLen at hl
  go_enter Tryd.func39, Tryd.ntmps39
  go_wp2
  go_loop [3, 5, 11] (fun s _ i => ∃ k : Nat, k ≤ l.length ∧ i = .int .i64 k ∧ s = .int .i64 (allCaps (l.take k)).length) (fun _ _ i => l.length - (intOf i).toNat)
  case atStart => exact ⟨0, by omega, rfl, by simp [allCaps]⟩
  case round =>
    obtain ⟨k, hk, rfl, rfl⟩ := hrel
    by_cases hkn : k < l.length
    · obtain ⟨g, off, rfl, _, hc⟩ := hr.2 (by omega)
      have c0 := hc k l[k].val (by simp [hkn])
      have e1 := allCaps_take l k hkn
      have e2 := allCaps_split l (k + 1)
      have e3 : (allCaps (l.take (k + 1))).length = (allCaps (l.take k)).length + l[k].cs.length := by rw [e1, List.length_append]
      obtain ⟨n1, hn1⟩ : ∃ n1, (allCaps (l.take k)).length = n1 := ⟨_, rfl⟩
      obtain ⟨x, hx⟩ : ∃ x, l[k] = x := ⟨_, rfl⟩
      rw [hx] at c0 e3
      rw [hn1] at e3 ⊢
      simp only [CapsV.val] at c0
      have HE := Lib.hid e3
      clear e1 hn1 hx hc
      go_wp2
      go_round
      case rel => exact ⟨k + 1, by omega, by go_num, int_eq (by have := HE.out; omega)⟩
      case measure => simp [intOf]; omega
    · obtain rfl : k = l.length := by omega
      rw [List.take_length]
      go_wp2_with fail
      refine (grow_any w _ hn).mono ?_
      rintro e w1 ⟨A1, cap1, rfl, hown, hb⟩
      have hz := hb.size
      have HO := Lib.hid hown
      have HR := Lib.hid hr
      have HF := Lib.hid hf
      clear hown hr hf
      go_wp2
      go_loopw [6, 8, 27] (fun a _ i wr => AppRel w wr l a i) (fun _ _ i _ => l.length - (intOf i).toNat)
      case atStart => exact ⟨0, A1, cap1, rfl, by omega, by simp [allCaps], by simpa [allCaps, capCells] using HO.out, hb⟩
      case round =>
        obtain ⟨k, A', cap', rfl, hk, rfl, hown, hbw⟩ := hrel
        have hzw := hbw.size
        by_cases hkn : k < l.length
        · obtain ⟨g, off, rfl, hg, hc⟩ := (HR.out.below (hbw.mono hB)).2 (by omega)
          have c0 := hc k l[k].val (by simp [hkn])
          have e1 := allCaps_take l k hkn
          have e2 := allCaps_split l (k + 1)
          have e3 : (allCaps (l.take (k + 1))).length = (allCaps (l.take k)).length + l[k].cs.length := by rw [e1, List.length_append]
          have hrx : l[k].rd wr B := (HF.out l[k] (List.getElem_mem hkn)).below (hbw.mono hB)
          obtain ⟨n1, hn1⟩ : ∃ n1, (allCaps (l.take k)).length = n1 := ⟨_, rfl⟩
          obtain ⟨x, hx⟩ : ∃ x, l[k] = x := ⟨_, rfl⟩
          rw [hx] at c0 e3 hrx e1
          rw [hn1] at e3 hown ⊢
          simp only [CapsV.val] at c0
          have hsrc := Src.rd (P := Tryd.prog) (tx := 22) (c := x.c) Tryd.underlying22 hrx (capCells_one x.cs)
          have HE := Lib.hid e3
          have HE1 := Lib.hid e1
          clear e1 hn1 hx hc
          go_wp2_with (at_builtin; go_loud (refine wpList_app wr rfl (.tmp 31) (.tmp 32) 22 22 rfl 45 _ 3 32 Tryd.underlying22 infoCap rfl w.heap.size A' n1 cap' _ rfl hown _ x.cs.length (capCells x.cs) rfl hsrc ?_ ?_ ?_ ?_; (focus omega); (focus omega); (focus omega); intro A2 cap2 w2 hown2 hg2 hA2 _))
          have hrel' : AppRel w w2 l (.slice A2 (n1 + x.cs.length) cap2) (.int .i64 ((k : Int) + 1)) := by
            refine ⟨k + 1, A2, cap2, by go_num, by omega, by rw [HE.out], ?_, ?_⟩
            · rw [HE.out, HE1.out, capCells_append]; exact hown2
            · exact hbw.grown hg2 (by omega) (fun j hj => (hown.lt j hj).1)
          have HR2 := Lib.hid hrel'
          clear hrel' hown hown2
          go_wp2
          go_roundw
          case rel => exact HR2.out
          case measure => simp [intOf]; omega
        · obtain rfl : k = l.length := by omega
          rw [List.take_length] at hown ⊢
          go_wp2
          go_ret
          exact ⟨A', cap', rfl, hown, hbw⟩
end Go.Proofs.YtnmnbefbadhkgaaDoor
