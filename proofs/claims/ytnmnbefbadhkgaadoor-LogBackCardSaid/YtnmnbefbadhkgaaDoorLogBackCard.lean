/-
  PROVED: LogBack: for every log and every text the law returns true and its arguments read as they did; the package-level variables on the row's list hold what the program's text lays.
-/
import Derived.Test.YtnmnbefbadhkgaaDoorCards
import Derived.Test.YtnmnbefbadhkgaaDoorTie
import Derived.Test.YtnmnbefbadhkgaaDoorLaid
import Derived.Test.YtnmnbefbadhkgaaDoorLogBack
import Derived.Test.YtnmnbefbadhkgaaDoorOpenLog
import Derived.HandedShaped
import Derived.ChangeMaps
import Derived.Lay
namespace Go.Proofs.YtnmnbefbadhkgaaDoor.LogBack
open Go Go.ChangeShapes Go.WideShapes Go.ChangeAt Go.RowKit Go.Deep

theorem glb_of (W : World) (h : W.ShapedOpen Tryd.prog) : Glb W := by
  have := cell_of_shapedOpen_int (P := Tryd.prog) (g := 0) (zero := #[.int .i64 0]) (t := 3) h (of_decide_eq_true (by kernel_rfl)) (by kernel_rfl) rfl (by kernel_rfl) (by kernel_rfl) Tryd.underlying3
  exact this
theorem iface_of_laid {P : Program} {W : World} {l : List (String × DataW Unit)} {ps : List MemPlace} {n : String} {d : DataW Unit} {g : Nat} {t : TypeId} {k : Array (String × TypeId)} (h : DataW.LaidVars P W ((n, d) :: l) ps)
    (hg : P.globalNamed n = some g) (ht : (P.globals[g]?).map (·.type) = some t) (hu : P.underlying t = some (.interface k)) : ∃ v, W.cell? ⟨g, 0, none⟩ = some v ∧ ErrVal v := by
  obtain ⟨g', t', cs, fuel, p, q, hg', ht', hvar, hd, _, _⟩ := h
  obtain rfl := Option.some.inj (hg.symm.trans hg')
  obtain rfl := Option.some.inj (ht.symm.trans ht')
  rw [var?_cell hg hvar 0, ← Array.getElem?_toList]
  generalize cs.toList = L at hd ⊢
  cases fuel with
  | zero => unfold DataW.trod at hd; cases hd
  | succ fuel =>
    unfold DataW.trod at hd
    rw [hu] at hd
    split at hd
    all_goals (first
      | (rename_i h1; exact ⟨_, rfl, .inl rfl⟩)
      | (rename_i u v h1; exact ⟨_, rfl, .inr ⟨u, v, rfl⟩⟩)
      | (rename_i h1; cases h1)
      | (rename_i h1 _; cases h1)
      | (rename_i h1 _ _; cases h1)
      | cases hd)
theorem errs_of {W : World} (h : laidMet Tryd.prog Rows.logBackRow.laid W) : Errs W := by
  obtain ⟨ps, h, _⟩ := h
  obtain ⟨_, h⟩ := laidVars_tail h
  obtain ⟨_, h⟩ := laidVars_tail h
  obtain ⟨_, h⟩ := laidVars_tail h
  obtain ⟨_, h⟩ := laidVars_tail h
  have h1 := iface_of_laid (g := 2) (t := 84) h (by kernel_rfl) (by kernel_rfl) Tryd.underlying84
  obtain ⟨_, h⟩ := laidVars_tail h
  have h2 := iface_of_laid (g := 1) (t := 84) h (by kernel_rfl) (by kernel_rfl) Tryd.underlying84
  exact ⟨h2, h1⟩
set_option maxRecDepth 100000 in
theorem slice_cap {H : Type} {enc : TypeId × Value → H} {W : World} {A : Option Addr} {n c : Nat} {d : DataW H} {p : List MemPlace} (h : DataW.Trod enc Tryd.prog W 0 (fun _ => true) true 32 (.slice A n c) d p) : n ≤ c := by
  obtain ⟨fuel, hf⟩ := h
  rcases open_slice Tryd.underlying32 hf with ⟨hv, _⟩ | ⟨a, len, cap, k, m, D, Pl, hv, _, hlc, _⟩
  · have hv' := List.head_eq_of_cons_eq hv
    injection hv' with h1 h2 h3
    omega
  · have hv' := List.head_eq_of_cons_eq hv
    injection hv' with h1 h2 h3
    omega

set_option maxRecDepth 100000 in
theorem contract (H : Type) (enc : TypeId × Value → H) (W : World) (base : Nat) (args : Array Value) (ds gs : List (DataW H)) (before : List MemPlace)
    (hval : ∀ (j : Nat) t v, Tryd.f7.params[j]? = some t → args[j]? = some v → Value.okWide Tryd.prog W .any base t v)
    (hW : DataW.Whole enc Tryd.prog Tryd.f7.params.toList Rows.logBackSpec.vars false W args.toList ds gs before) (hL : laidMetH Tryd.prog Rows.logBackRow.laid W) (hS : W.ShapedOpen Tryd.prog) :
    Calls Tryd.prog 7 args W fun e W' => ∃ v, e = .returned v ∧ Rows.logBackSpec.post enc Tryd.prog Tryd.f7 false true false false W args v W' := by
  have hW' := hW
  obtain ⟨p, q, hA0, hV, rfl, hfz, hnd⟩ := hW
  have hA : DataW.TrodAll enc Tryd.prog W 0 (fun _ => true) true Tryd.f7.params.toList args.toList ds p := hA0
  rw [Tryd.params7] at hA hval
  obtain ⟨v0, v1, d0, d1, p0, p1, hargs, rfl, rfl, h0, h1⟩ := trodAll_two hA
  obtain rfl : args = #[v0, v1] := by cases args; simp_all
  obtain ⟨A1, c1, l1, rfl, hr1, hf1, hl1⟩ := open_items_arg (hval 0 32 v0 rfl rfl) h0
  obtain ⟨s, rfl, _, _, hs⟩ := ChangeMaps.open_string Tryd.underlying9 (hval 1 9 v1 rfl rfl) h1
  rw [MakeChecks.laidMetH_plain _ _ _ (by kernel_rfl)] at hL
  have ht : Tab W := tab_of_laid hL
  refine (logBack_any W A1 c1 l1 s hr1 hf1 hl1 (slice_cap h0) hs ht (glb_of W hS) (errs_of hL)).mono ?_
  rintro e W' ⟨rfl, hb⟩
  exact ⟨_, rfl, law_post (tb := 4) (by kernel_rfl) (by kernel_rfl) Tryd.underlying4 (by kernel_rfl) rfl rfl hW' hb⟩

noncomputable def start (os : Os) : World := World.laidAll Tryd.prog os Rows.logBackRow.laid
def given : Array Value := #[.slice none 0 0, .string ⟨#[]⟩]
theorem laid_met (os : Os) : laidMetH Tryd.prog Rows.logBackRow.laid ((start os).forCall (fun _ _ => 0) ⟨#[], given, []⟩).memory :=
  by rw [MakeChecks.laidMetH_plain _ _ _ (by kernel_rfl)]; exact laidMet_laidAll _ (by kernel_rfl) (by kernel_rfl)

set_option maxRecDepth 100000 in
theorem lifted (os : Os) (started : os.Started) (H : Type) (enc : TypeId × Value → H) (F : Stop.Interp) :
    ReturnsInHanded {} Tryd.checked os 7 .any ((OpenSpec.ofChange Rows.logBackSpec).preRow enc Tryd.prog Tryd.f7 Rows.logBackRow.domain false Rows.logBackRow.laid) (((OpenSpec.ofChange Rows.logBackSpec).at F).post enc Tryd.prog Tryd.f7 false true false false) := by
  have hx : ∃ x, DataW.whole enc Tryd.prog ((start os).forCall (fun _ _ => 0) ⟨#[], given, []⟩).memory Tryd.f7.params.toList Rows.logBackSpec.vars false given.toList 8 = some x := Option.isSome_iff_exists.1 (by kernel_rfl)
  obtain ⟨x, hx⟩ := hx
  refine returnsInHanded_of_row (C := Tryd.checked) (s := OpenSpec.ofChange Rows.logBackSpec) own started (by kernel_rfl) Tryd.func7
    ⟨start os, fun _ _ => 0, ⟨#[], given, []⟩, World.laidAll_os _ _ _, World.shaped_of_ZipB (by kernel_rfl) (by kernel_rfl), rfl, (Input.okWide_of_okWideB (by kernel_rfl)).2,
      (OpenSpec.preRow_of_cond 8 hx (by kernel_rfl) (fun k hk => by cases hk) (by kernel_rfl) (laid_met os)), by
        simp only [Assume.holds]
        exact ⟨by simp, by simp, fun h => (by cases h), by simp, by simp⟩⟩ ?_
  intro W base args ds gs before hval hW _ _ _ hL hS _
  exact contract H enc W base args ds gs before hval hW hL hS

theorem said : Rows.LogBackSaid :=
  OpenClaim.holds_of_cond 7 Tryd.f7 rfl rfl rfl rfl rfl rfl rfl ⟨rfl, rfl, rfl, rfl, rfl⟩ rfl rfl rfl rfl rfl (by kernel_rfl) Tryd.func7 (by kernel_rfl)
    (of_decide_eq_true (by kernel_rfl)) (by unfold Func.isWrapper; first | (rw [if_pos (by decide +kernel)]; kernel_rfl) | (rw [if_neg (by decide +kernel)]; exact ⟨rfl, rfl⟩))
    (fun os started H enc _ F => by rw [OpenClaim.pre_eq_preRow]; exact lifted os started H enc F)

theorem plain (f : FuncId) (fn : Func) (hf : Tryd.pinned.checked.prog.funcNamed "bonsai/bonsailaw27.LogBack" = some f) (hfn : Tryd.pinned.checked.prog.funcs[f]? = some fn) :
    true = Tryd.pinned.checked.prog.looks [] ∧ ∀ (j : Nat) t, fn.params[j]? = some t → Tryd.pinned.checked.prog.wantsStandIn t = false := by
  obtain rfl : f = 7 := Option.some.inj ((show Tryd.prog.funcNamed "bonsai/bonsailaw27.LogBack" = some 7 by kernel_rfl).symm.trans hf) |>.symm
  obtain rfl : fn = Tryd.f7 := (Option.some.inj (Tryd.func7.symm.trans hfn)).symm
  refine ⟨by kernel_rfl, fun j t ht => ?_⟩
  have hall : (Tryd.f7.params.toList.all fun u => !Tryd.prog.wantsStandIn u) = true := by kernel_rfl
  have := List.all_eq_true.1 hall t (Array.mem_toList_iff.2 (Array.mem_of_getElem? ht))
  exact (show Tryd.prog.wantsStandIn t = false by simpa using this)

theorem card : Rows.LogBackCardSaid :=
  Claim7.holds_tied_plain_at .later [] _ _ _ _ said (fun _ h => by cases h) (by kernel_rfl) (fun _ h => by cases h) logBack_row_tie rfl ⟨rfl, rfl⟩ (by kernel_rfl) rfl plain (by kernel_rfl)

#print axioms card
end Go.Proofs.YtnmnbefbadhkgaaDoor.LogBack
