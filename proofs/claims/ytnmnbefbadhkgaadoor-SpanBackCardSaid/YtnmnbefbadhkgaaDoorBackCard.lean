/-
  PROVED: SpanBack: for every outcome and every text the law returns true and its arguments read as they did; the package-level variables on the row's list hold what the program's text lays.
-/
import Derived.Test.YtnmnbefbadhkgaaDoorCards
import Derived.Test.YtnmnbefbadhkgaaDoorTie
import Derived.Test.YtnmnbefbadhkgaaDoorLaid
import Derived.Test.YtnmnbefbadhkgaaDoorBack
import Derived.Test.YtnmnbefbadhkgaaDoorOpenSpan
import Derived.HandedShaped
import Derived.ChangeMaps
import Derived.Lay
namespace Go.Proofs.YtnmnbefbadhkgaaDoor.SpanBack
open Go Go.ChangeShapes Go.WideShapes Go.ChangeAt Go.RowKit

theorem glb_of (W : World) (h : W.ShapedOpen Tryd.prog) : Glb W := by
  have := cell_of_shapedOpen_int (P := Tryd.prog) (g := 0) (zero := #[.int .i64 0]) (t := 3) h (of_decide_eq_true (by kernel_rfl)) (by kernel_rfl) rfl (by kernel_rfl) (by kernel_rfl) Tryd.underlying3
  exact this

set_option maxRecDepth 100000 in
theorem contract (H : Type) (enc : TypeId × Value → H) (W : World) (base : Nat) (args : Array Value) (ds gs : List (DataW H)) (before : List MemPlace)
    (hval : ∀ (j : Nat) t v, Tryd.f6.params[j]? = some t → args[j]? = some v → Value.okWide Tryd.prog W .any base t v)
    (hW : DataW.Whole enc Tryd.prog Tryd.f6.params.toList Rows.spanBackSpec.vars false W args.toList ds gs before) (hL : laidMetH Tryd.prog Rows.spanBackRow.laid W) (hS : W.ShapedOpen Tryd.prog) :
    Calls Tryd.prog 6 args W fun e W' => ∃ v, e = .returned v ∧ Rows.spanBackSpec.post enc Tryd.prog Tryd.f6 false true false false W args v W' := by
  have hW' := hW
  obtain ⟨p, q, hA0, hV, rfl, hfz, hnd⟩ := hW
  have hA : DataW.TrodAll enc Tryd.prog W 0 (fun _ => true) true Tryd.f6.params.toList args.toList ds p := hA0
  rw [Tryd.params6] at hA hval
  obtain ⟨v0, v1, d0, d1, p0, p1, hargs, rfl, rfl, h0, h1⟩ := trodAll_two hA
  obtain rfl : args = #[v0, v1] := by cases args; simp_all
  obtain ⟨ok, tt, A, c, caps, rfl, hr, htt, hlen, hf⟩ := open_out (hval 0 24 v0 rfl rfl) h0
  obtain ⟨s, rfl, _, _, hs⟩ := ChangeMaps.open_string Tryd.underlying9 (hval 1 9 v1 rfl rfl) h1
  rw [MakeChecks.laidMetH_plain _ _ _ (by kernel_rfl)] at hL
  have ht : Tab W := tab_of_laid hL
  refine (back_any W A c ok tt caps s hr ⟨htt, hlen, hf⟩ hs ht (glb_of W hS)).mono ?_
  rintro e W' ⟨rfl, hb⟩
  exact ⟨_, rfl, law_post (tb := 4) (by kernel_rfl) (by kernel_rfl) Tryd.underlying4 (by kernel_rfl) rfl rfl hW' hb⟩

noncomputable def start (os : Os) : World := World.laidAll Tryd.prog os Rows.spanBackRow.laid
def given : Array Value := #[.agg #[.bool false, .int .i64 0, .slice none 0 0], .string ⟨#[]⟩]
theorem laid_met (os : Os) : laidMetH Tryd.prog Rows.spanBackRow.laid ((start os).forCall (fun _ _ => 0) ⟨#[], given, []⟩).memory :=
  by rw [MakeChecks.laidMetH_plain _ _ _ (by kernel_rfl)]; exact laidMet_laidAll _ (by kernel_rfl) (by kernel_rfl)

set_option maxRecDepth 100000 in
theorem lifted (os : Os) (started : os.Started) (H : Type) (enc : TypeId × Value → H) (F : Stop.Interp) :
    ReturnsInHanded {} Tryd.checked os 6 .any ((OpenSpec.ofChange Rows.spanBackSpec).preRow enc Tryd.prog Tryd.f6 Rows.spanBackRow.domain false Rows.spanBackRow.laid) (((OpenSpec.ofChange Rows.spanBackSpec).at F).post enc Tryd.prog Tryd.f6 false true false false) := by
  have hx : ∃ x, DataW.whole enc Tryd.prog ((start os).forCall (fun _ _ => 0) ⟨#[], given, []⟩).memory Tryd.f6.params.toList Rows.spanBackSpec.vars false given.toList 8 = some x := Option.isSome_iff_exists.1 (by kernel_rfl)
  obtain ⟨x, hx⟩ := hx
  refine returnsInHanded_of_row (C := Tryd.checked) (s := OpenSpec.ofChange Rows.spanBackSpec) own started (by kernel_rfl) Tryd.func6
    ⟨start os, fun _ _ => 0, ⟨#[], given, []⟩, World.laidAll_os _ _ _, World.shaped_of_ZipB (by kernel_rfl) (by kernel_rfl), rfl, (Input.okWide_of_okWideB (by kernel_rfl)).2,
      (OpenSpec.preRow_of_cond 8 hx (by kernel_rfl) (fun k hk => by cases hk) (by kernel_rfl) (laid_met os)), by
        simp only [Assume.holds]
        exact ⟨by simp, by simp, fun h => (by cases h), by simp, by simp⟩⟩ ?_
  intro W base args ds gs before hval hW _ _ _ hL hS _
  exact contract H enc W base args ds gs before hval hW hL hS

theorem said : Rows.SpanBackSaid :=
  OpenClaim.holds_of_cond 6 Tryd.f6 rfl rfl rfl rfl rfl rfl rfl ⟨rfl, rfl, rfl, rfl, rfl⟩ rfl rfl rfl rfl rfl (by kernel_rfl) Tryd.func6 (by kernel_rfl)
    (of_decide_eq_true (by kernel_rfl)) (by unfold Func.isWrapper; first | (rw [if_pos (by decide +kernel)]; kernel_rfl) | (rw [if_neg (by decide +kernel)]; exact ⟨rfl, rfl⟩))
    (fun os started H enc _ F => by rw [OpenClaim.pre_eq_preRow]; exact lifted os started H enc F)

theorem plain (f : FuncId) (fn : Func) (hf : Tryd.pinned.checked.prog.funcNamed "bonsai/bonsailaw14.SpanBack" = some f) (hfn : Tryd.pinned.checked.prog.funcs[f]? = some fn) :
    true = Tryd.pinned.checked.prog.looks [] ∧ ∀ (j : Nat) t, fn.params[j]? = some t → Tryd.pinned.checked.prog.wantsStandIn t = false := by
  obtain rfl : f = 6 := Option.some.inj ((show Tryd.prog.funcNamed "bonsai/bonsailaw14.SpanBack" = some 6 by kernel_rfl).symm.trans hf) |>.symm
  obtain rfl : fn = Tryd.f6 := (Option.some.inj (Tryd.func6.symm.trans hfn)).symm
  refine ⟨by kernel_rfl, fun j t ht => ?_⟩
  have hall : (Tryd.f6.params.toList.all fun u => !Tryd.prog.wantsStandIn u) = true := by kernel_rfl
  have := List.all_eq_true.1 hall t (Array.mem_toList_iff.2 (Array.mem_of_getElem? ht))
  exact (show Tryd.prog.wantsStandIn t = false by simpa using this)

theorem card : Rows.SpanBackCardSaid :=
  Claim7.holds_tied_plain_at .later [] _ _ _ _ said (fun _ h => by cases h) (by kernel_rfl) (fun _ h => by cases h) spanBack_row_tie rfl ⟨rfl, rfl⟩ (by kernel_rfl) rfl plain (by kernel_rfl)

#print axioms card
end Go.Proofs.YtnmnbefbadhkgaaDoor.SpanBack
