/-
  LEMMAS for the law LogBack.
-/
import Derived.Test.YtnmnbefbadhkgaaDoorLogRead
import Derived.Test.YtnmnbefbadhkgaaDoorLogBackM
import Derived.Test.YtnmnbefbadhkgaaDoorLogOne
namespace Go.Proofs.YtnmnbefbadhkgaaDoor
open Go Go.RowKit

theorem dec_len10 : ∀ (k u : Nat), u < 10 ^ (k + 1) → (Lib.decDigits u).length ≤ k + 1
  | 0, u, h => by rw [dec_small (by omega)]; simp
  | k + 1, u, h => by
    by_cases hs : u < 10
    · rw [dec_small hs]; simp
    · rw [dec_more hs, List.length_append]
      have := dec_len10 k (u / 10) (by rw [Nat.pow_succ] at h; omega)
      simp
      omega
theorem itoa_len {n : Int} (h0 : 0 ≤ n) (h1 : n ≤ 2147483647) : (Lib.itoa n).length ≤ 10 := by
  rw [itoa_pos h0]
  exact dec_len10 9 _ (by omega)
theorem show_len {x : Itm} (h : x.may = true) (hn : x.narrow) : (showItm x).length ≤ 1000 := by
  unfold showItm
  rw [if_pos h]
  cases hm : x.mark
  · obtain ⟨_, h2, h3, h4, h5⟩ := may_step h hm
    simp only [okNum, Bool.and_eq_true, decide_eq_true_eq] at h2 h3
    have a1 := itoa_len (n := (x.step.pass : Int)) (by omega) (by have := hn.1; omega)
    have a2 := itoa_len (n := (x.step.way : Int)) (by omega) (by have := hn.2; omega)
    have a3 := itoa_len h2.1 h2.2
    have a4 := itoa_len h3.1 h3.2
    have a5 := steps_len' x.step.path x.step.path.length 11 (fun n hn => by
      have := h5 n hn
      simp only [okNum, Bool.and_eq_true, decide_eq_true_eq] at this
      have := itoa_len this.1 this.2
      omega)
    rw [List.take_length] at a5
    unfold showTop
    simp only [Bool.false_eq_true, if_false, List.length_append, List.length_cons, List.length_nil]
    omega
  · simp
theorem may_fits {x : Itm} (h : x.may = true) (hn : x.narrow) : x.step.fits ∧ x.step.path.length ≤ 32 := by
  cases hm : x.mark
  · obtain ⟨_, h2, h3, h4, h5⟩ := may_step h hm
    simp only [okNum, Bool.and_eq_true, decide_eq_true_eq] at h2 h3
    refine ⟨⟨hn.1, hn.2, by unfold isI64; omega, by unfold isI64; omega, by unfold maxLen; omega, fun n hn => ?_⟩, h4⟩
    have := h5 n hn
    simp only [okNum, Bool.and_eq_true, decide_eq_true_eq] at this
    unfold isI64
    omega
  · unfold Itm.may at h
    rw [if_pos hm] at h
    simp only [Bool.and_eq_true, decide_eq_true_eq, List.isEmpty_iff] at h
    obtain ⟨⟨⟨⟨_, _⟩, h3⟩, h4⟩, h5⟩ := h
    refine ⟨⟨hn.1, hn.2, by rw [h3]; unfold isI64; omega, by rw [h4]; unfold isI64; omega, by rw [h5]; unfold maxLen; simp, fun n hn => by rw [h5] at hn; cases hn⟩, by rw [h5]; simp⟩
theorem show_not {x : Itm} (h : x.may = false) : showItm x = [] := by
  unfold showItm
  rw [if_neg (by rw [h]; simp)]

theorem ItmsAt.six {w : World} {B g off : Nat} {l : List ItmV} (h : ItmsAt w B (some ⟨g, off, none⟩) l) {k : Nat} (hk : k < l.length) :
    w.cell? ⟨g, off + k * 6, none⟩ = some (.bool l[k].x.mark) ∧ w.cell? ⟨g, off + k * 6 + 1, none⟩ = some (.int .u8 l[k].x.step.pass) ∧ w.cell? ⟨g, off + k * 6 + 2, none⟩ = some (.int .u8 l[k].x.step.way) ∧ w.cell? ⟨g, off + k * 6 + 3, none⟩ = some (.int .i64 l[k].x.step.rule) ∧ w.cell? ⟨g, off + k * 6 + 4, none⟩ = some (.slice l[k].A l[k].x.step.path.length l[k].c) ∧ w.cell? ⟨g, off + k * 6 + 5, none⟩ = some (.int .i64 l[k].x.step.at_) := by
  obtain ⟨g', off', e, _, r⟩ := h.1.itm hk
  cases e
  exact r
theorem ItmsAt.form {w : World} {B : Nat} {A : Option Addr} {l : List ItmV} (h : ItmsAt w B A l) {k : Nat} (hk : k < l.length) : ∃ g off, A = some ⟨g, off, none⟩ := by
  obtain ⟨g, off, e, _⟩ := h.1.itm hk
  exact ⟨g, off, e⟩
theorem ItmsAt.one {w : World} {B g off : Nat} {l : List ItmV} (h : ItmsAt w B (some ⟨g, off, none⟩) l) {k : Nat} (hk : k < l.length) : ItmsAt w B (some ⟨g, off + k * 6, none⟩) [l[k]] := by
  refine ⟨⟨rfl, fun _ => ⟨g, off + k * 6, rfl, ?_, fun j u hu => ?_⟩⟩, fun x hx => ?_⟩
  · obtain ⟨g', off', e, hb, _⟩ := h.1.itm hk
    cases e
    exact hb
  · have hn : 0 < l.length := by omega
    obtain ⟨g', off', e, _, hc⟩ := h.1.2 hn
    cases e
    have hj : j < 6 := by have := (List.getElem?_eq_some_iff.1 hu).1; simpa [ItmV.cells] using this
    rw [Nat.add_assoc]
    refine hc _ _ ?_
    rw [flatN 6 ItmV.cells (fun _ => rfl) l k l[k] (List.getElem?_eq_getElem hk) j hj]
    simpa using hu
  · simp only [List.mem_singleton] at hx
    subst hx
    exact h.2 _ (List.getElem_mem hk)
theorem ItmsAt.box {w : World} {g : Nat} {t : TypeId} {v : ItmV} (h : Blk w g t v.cells.toArray) (hr : v.rd w w.heap.size) (hl : v.x.step.path.length ≤ maxLen) : ItmsAt w w.heap.size (some ⟨g, 0, none⟩) [v] := by
  refine ⟨⟨rfl, fun _ => ⟨g, 0, rfl, h.lt, fun j u hu => ?_⟩⟩, fun x hx => ?_⟩
  · rw [Nat.zero_add, h.cell j]
    simpa using hu
  · simp only [List.mem_singleton] at hx
    subst hx
    exact ⟨hr, hl⟩

/-- What stands while an item is held against its line. -/
structure BInv (w : World) (A : Option Addr) (l : List ItmV) (g : Nat) (v : ItmV) (w' : World) : Prop where
  i : ItmsAt w' w'.heap.size A l
  b : Blk w' g 57 v.cells.toArray
  r : v.rd w' w'.heap.size
  bel : Below w.heap.size w w'
theorem BInv.below {w : World} {A : Option Addr} {l : List ItmV} {g : Nat} {v : ItmV} {w' w'' : World} (h : BInv w A l g v w') (hb : Below w'.heap.size w' w'') : BInv w A l g v w'' :=
  ⟨h.i.upto hb, h.b.below hb h.b.lt, (Reads.below h.r hb).more hb.size, h.bel.trans (hb.mono h.bel.size)⟩
theorem BInv.six {w : World} {A : Option Addr} {l : List ItmV} {g : Nat} {v : ItmV} {w' : World} (h : BInv w A l g v w') : w'.cell? ⟨g, 0, none⟩ = some (.bool v.x.mark) ∧ w'.cell? ⟨g, 1, none⟩ = some (.int .u8 v.x.step.pass) ∧ w'.cell? ⟨g, 2, none⟩ = some (.int .u8 v.x.step.way) ∧ w'.cell? ⟨g, 3, none⟩ = some (.int .i64 v.x.step.rule) ∧ w'.cell? ⟨g, 4, none⟩ = some (.slice v.A v.x.step.path.length v.c) ∧ w'.cell? ⟨g, 5, none⟩ = some (.int .i64 v.x.step.at_) :=
  ⟨h.b.cell 0, h.b.cell 1, h.b.cell 2, h.b.cell 3, h.b.cell 4, h.b.cell 5⟩
/-- A call's one value. -/
def constS (v0 : Value) : FreeSpec := ⟨fun v => v = v0, fun _ _ => True, fun _ => none⟩
theorem constS_ok (v0 : Value) : (∃ v, (constS v0).rho v) ∧ ∀ v, Stays ((constS v0).R v) := ⟨⟨v0, rfl⟩, fun _ _ _ _ _ => trivial⟩
theorem constS_call {P : Program} {f : FuncId} {args : Array Value} {w : World} {v0 : Value} (h : Calls P f args w fun e w' => e = .returned v0 ∧ Below w.heap.size w w') : Calls P f args w fun e w' => ∃ v, e = .returned v ∧ (constS v0).post w v w' :=
  h.mono fun e w' ⟨he, hb⟩ => ⟨v0, he, rfl, trivial, (fun g hg => by cases hg), hb⟩
/-- .. and a new list of one item. -/
def boxS (v0 : ItmV) : FreeSpec where
  rho v := ∃ g, v = .slice (some ⟨g, 0, none⟩) 1 1
  R v w' := ∃ g, v = .slice (some ⟨g, 0, none⟩) 1 1 ∧ Blk w' g 57 v0.cells.toArray
  born v := match v with | .slice A _ _ => blockOf A | _ => none
theorem boxS_ok (v0 : ItmV) : (∃ v, (boxS v0).rho v) ∧ ∀ v, Stays ((boxS v0).R v) := ⟨⟨_, 0, rfl⟩, fun _ w1 w2 ⟨g, e, h⟩ hb => ⟨g, e, h.below hb h.lt⟩⟩

/-- log.Read of a line that was shown. -/
theorem read_yes (w : World) (x : Itm) (h : x.may = true) (hn : x.narrow) (hg : Glb w) (ht : Tab w) (he : Errs w) : Calls Tryd.prog 27 #[.string ⟨(showItm x).toArray⟩] w fun e w' => ∃ v : ItmV, v.x = x ∧ e = .returned (.tuple #[v.val, .int .i64 0]) ∧ v.rd w' w'.heap.size ∧ Below w.heap.size w w' := by
  have hl := show_len h hn
  refine (logRead_any w _ (by show (showItm x).length < _; omega) hg ht he).mono ?_
  intro e w' hp
  unfold ReadSays at hp
  rw [show ((⟨(showItm x).toArray⟩ : ByteArray).data.toList) = showItm x from rfl, read_show x h hn] at hp
  obtain ⟨v, h1, h2, h3, _, h5⟩ := hp
  exact ⟨v, h1, h2, h3, h5⟩
theorem read_no (w : World) (x : Itm) (h : x.may = false) (hg : Glb w) (ht : Tab w) (he : Errs w) : Calls Tryd.prog 27 #[.string ⟨(showItm x).toArray⟩] w fun e w' => e = .returned (.tuple #[ItmV.val ⟨⟨false, Stp.zero⟩, none, 0⟩, .int .i64 4]) ∧ Below w.heap.size w w' := by
  refine (logRead_any w _ (by show (showItm x).length < _; rw [show_not h]; simp) hg ht he).mono ?_
  intro e w' hp
  unfold ReadSays at hp
  rw [show ((⟨(showItm x).toArray⟩ : ByteArray).data.toList) = [] from show_not h, read_nil] at hp
  exact hp
/-- .. of any text: an item that may be, shown as the text; or none. -/
theorem read_text (w : World) (s : ByteArray) (hs : s.size < 4294967000) (hg : Glb w) (ht : Tab w) (he : Errs w) : Calls Tryd.prog 27 #[.string s] w fun e w' => Below w.heap.size w w' ∧
    ((∃ v : ItmV, v.x.may = true ∧ showItm v.x = s.data.toList ∧ e = .returned (.tuple #[v.val, .int .i64 0]) ∧ v.rd w' w'.heap.size ∧ v.x.step.fits) ∨ e = .returned (.tuple #[ItmV.val ⟨⟨false, Stp.zero⟩, none, 0⟩, .int .i64 4])) := by
  refine (logRead_any w s hs hg ht he).mono ?_
  intro e w' hp
  unfold ReadSays at hp
  cases hr : readLine s.data.toList with
  | none =>
    rw [hr] at hp
    exact ⟨hp.2, .inr hp.1⟩
  | some x =>
    rw [hr] at hp
    obtain ⟨v, rfl, h2, h3, h4, h5⟩ := hp
    exact ⟨h5, .inl ⟨v, (show_read hr).1, (show_read hr).2, h2, h3, h4⟩⟩
end Go.Proofs.YtnmnbefbadhkgaaDoor
