/-
  WALK over bonsai/span.May: it says what the plain 'mayB' says; nothing that was there turns.
-/
import Derived.Test.YtnmnbefbadhkgaaDoorSpanA
import Derived.BigQuiet
import Derived.Deep.QuietTactic
namespace Go.Proofs.YtnmnbefbadhkgaaDoor
open Go.RowKit

/-- Those that are not ended at a place: the innermost one first. -/
def popped (fr : Int) : List Int → List Int
  | [] => []
  | x :: st => if x ≤ fr then popped fr st else x :: st

def mostOf (to : Int) : List Int → Int
  | [] => to
  | x :: _ => x

/-- From here on the captures may be. -/
def mayGo (to : Int) : List Cap → List Int → Int → Bool
  | [], _, _ => true
  | c :: cs, st, fr =>
    if nameMay c.name.data.toList && (decide (fr ≤ c.fr) && (decide (c.fr ≤ c.to) && decide (c.to ≤ mostOf to (popped c.fr st)))) then mayGo to cs (c.to :: popped c.fr st) c.fr else false

def mayB (o : Out) (n : Int) : Bool :=
  decide (0 ≤ n) && (decide (n ≤ 4096) &&
    (if o.ok then decide (0 ≤ o.to) && (decide (o.to ≤ n) && (decide (o.caps.length ≤ 65536) && mayGo o.to o.caps [] 0))
     else o.to == 0 && o.caps.length == 0))

theorem infoInt : (Tryd.prog.info? 3).map (fun i => (i.zero, i.size, i.bytes)) = some (some (.int .i64 0), 1, 8) := by kernel_rfl
theorem popped_length (fr : Int) (st : List Int) : (popped fr st).length ≤ st.length := by
  induction st with
  | nil => simp [popped]
  | cons x st ih => simp only [popped]; split <;> simp <;> omega

theorem bcell {W w1 : World} (hb : Below W.heap.size W w1) : (∀ b o, b < W.heap.size → w1.cell? ⟨b, o, none⟩ = W.cell? ⟨b, o, none⟩) ∧ (∀ b o, b < W.heap.size → w1.frozen? ⟨b, o, none⟩ = W.frozen? ⟨b, o, none⟩) :=
  ⟨fun b o h => hb.cell (p := ⟨b, o, none⟩) h, fun b o h => hb.frozen (p := ⟨b, o, none⟩) h⟩

def intVals (st : List Int) : List Value := st.reverse.map (Value.int .i64)
theorem intVals_length (st : List Int) : (intVals st).length = st.length := by simp [intVals]

theorem mayGo_step (to : Int) (x : Cap) (cs : List Cap) (st st' : List Int) (f : Int) (hp : popped x.fr st = st') :
    mayGo to (x :: cs) st f = if nameMay x.name.data.toList && (decide (f ≤ x.fr) && (decide (x.fr ≤ x.to) && decide (x.to ≤ mostOf to st'))) then mayGo to cs (x.to :: st') x.fr else false := by
  rw [mayGo, hp]

/-- The state at the head of May's loop. -/
def MayHead (w wr : World) (to : Int) (cs : List Cap) (v0 v1 v2 : Value) (k : Nat) (st : List Int) (A : Option Addr) (cap : Nat) (fr : Int) : Prop :=
  k ≤ cs.length ∧ st.length ≤ k ∧ Owns wr (w.heap.size + 1) 3 1 A st.length cap (intVals st) ∧ Below w.heap.size w wr ∧ w.heap.size < wr.heap.size ∧
  wr.cell? ⟨w.heap.size, 0, none⟩ = some v0 ∧ wr.cell? ⟨w.heap.size, 1, none⟩ = some v1 ∧ wr.cell? ⟨w.heap.size, 2, none⟩ = some v2 ∧ mayGo to cs [] 0 = mayGo to (cs.drop k) st fr

def MayRel (w wr : World) (to : Int) (cs : List Cap) (v0 v1 v2 : Value) (op fr i : Value) : Prop :=
  ∃ k st A cap f, i = .int .i64 (k : Nat) ∧ fr = .int .i64 f ∧ op = .slice A st.length cap ∧ MayHead w wr to cs v0 v1 v2 k st A cap f

/-- The state at the head of May's inner loop. -/
def PopRel (B0 : Nat) (wr : World) (x : Cap) (st : List Int) (op : Value) (w2 : World) : Prop :=
  ∃ st' A cap q, op = .slice A st'.length cap ∧ Owns wr B0 3 1 A st'.length cap (intVals st') ∧ popped x.fr st' = popped x.fr st ∧ st'.length ≤ st.length ∧ w2 = (wr.alloc (.cells #[.string x.name, .int .i64 x.fr, .int .i64 x.to] 45)).drewN q
def sliceLen : Value → Nat | .slice _ n _ => n | _ => 0

theorem intv_pop {wr : World} {B0 g off cap y} {st2 : List Int} (h : Owns wr B0 3 1 (some ⟨g, off, none⟩) (y :: st2).length cap (intVals (y :: st2))) :
    Owns wr B0 3 1 (some ⟨g, off, none⟩) st2.length st2.length (intVals st2) := by
  have h1 := (h.take (m := st2.length) (by simp)).less (cap' := st2.length) (Nat.le_refl _) (by have := h.2.1; simp at this; omega)
  have e : (intVals (y :: st2)).take (st2.length * 1) = intVals st2 := by
    unfold intVals
    rw [List.reverse_cons, List.map_append, List.take_left' (by simp)]
  rw [e] at h1
  exact h1
theorem intv_push {wr : World} {B0 A cap y n} {st2 : List Int} (h : Owns wr B0 3 1 A n cap (intVals st2 ++ [.int .i64 y])) (hn : n = st2.length + 1) :
    Owns wr B0 3 1 A (y :: st2).length cap (intVals (y :: st2)) := by
  subst hn
  have e : intVals (y :: st2) = intVals st2 ++ [.int .i64 y] := by simp [intVals]
  rw [e]
  exact h

/-- One capture on: the state at May's head holds again. -/
theorem may_next {w wr w3 : World} {to : Int} {cs : List Cap} {v0 v1 v2 : Value} {k : Nat} {st : List Int} {A A3 : Option Addr} {cap3 nq : Nat} {f : Int} {obj : Obj} {n : Nat} {x : Cap}
    (hb : Below w.heap.size w wr) (hz : w.heap.size < wr.heap.size)
    (k0 : wr.cell? ⟨w.heap.size, 0, none⟩ = some v0) (k1 : wr.cell? ⟨w.heap.size, 1, none⟩ = some v1) (k2 : wr.cell? ⟨w.heap.size, 2, none⟩ = some v2)
    (hkn : k < cs.length) (hst : st.length ≤ k) (hn : n = st.length + 1)
    (hown3 : Owns w3 (w.heap.size + 1) 3 1 A3 n cap3 (intVals st ++ [.int .i64 f])) (hg3 : ((wr.alloc obj).drewN nq).grownBy w3 (blockOf A))
    (hlt : ∀ g, blockOf A = some g → w.heap.size + 1 ≤ g) (hgo : mayGo to cs [] 0 = mayGo to (cs.drop (k + 1)) (f :: st) x.fr) :
    MayRel w w3 to cs v0 v1 v2 (.slice A3 n cap3) (.int .i64 x.fr) (.int .i64 ((k : Int) + 1)) := by
  have hw : ∀ b, b < w.heap.size + 1 → w3.heap[b]? = wr.heap[b]? := fun b hb' => by
    rw [hg3.block b (by simp; omega) (fun e => by have := hlt _ e.symm; omega)]
    exact heap_alloc_old wr obj (by omega)
  have hc : ∀ o, w3.cell? ⟨w.heap.size, o, none⟩ = wr.cell? ⟨w.heap.size, o, none⟩ := fun o => World.cell?_of_block (w := wr) (hw w.heap.size (by omega))
  refine ⟨k + 1, f :: st, A3, cap3, x.fr, by go_num, rfl, by rw [hn]; rfl, by omega, by simp; omega, intv_push hown3 hn, ?_, by have := hg3.size; simp at this; omega, (hc 0).trans k0, (hc 1).trans k1, (hc 2).trans k2, hgo⟩
  exact ⟨hg3.os.trans hb.os, hg3.tape.trans hb.tape, hg3.output.trans hb.output, by have := hg3.size; have := hb.size; simp at *; omega, fun b hb' => (hw b (by omega)).trans (hb.block b hb')⟩

set_option maxRecDepth 100000 in
set_option maxHeartbeats 1000000 in
theorem spanMay_ok (w : World) (A : Option Addr) (c : Nat) (o : Out) (n : Int) (hr : Reads w w.heap.size 3 A o.caps.length (capCells o.caps)) (hf : o.fits) (_hok : o.ok = true)
    (hn0 : 0 ≤ n) (hn1 : n ≤ 4096) (h0 : 0 ≤ o.to) (h1 : o.to ≤ n) (hl : o.caps.length ≤ 65536) :
    Calls Tryd.prog 13 #[.agg #[.bool true, .int .i64 o.to, .slice A o.caps.length c], .int .i64 n] w fun e w' => e = .returned (.bool (mayGo o.to o.caps [] 0)) ∧ Below w.heap.size w w' := by
  obtain ⟨to, hto⟩ : ∃ to, o.to = to := ⟨_, rfl⟩
  rw [hto] at h0 h1 ⊢
  clear _hok hto
  go_enter Tryd.func13, Tryd.ntmps13
  go_wp2
  go_loopw [5, 6, 49] (fun op fr i wr => MayRel w wr to o.caps (.bool true) (.int .i64 to) (.slice A o.caps.length c) op fr i) (fun _ _ i _ => o.caps.length - (intOf i).toNat)
  case atStart => 
    refine ⟨0, [], none, 0, 0, rfl, rfl, rfl, by omega, by simp, Owns.nil_ _ _ _ _, (Below.refl _ _).alloc (Nat.le_refl _) _, by simp, ?_, ?_, ?_, rfl⟩ <;> simp [go_sem]
  case round =>
    obtain ⟨k, st, A1, cap, f, rfl, rfl, rfl, hk, hst, hown, hb, hz, k0, k1, k2, hg⟩ := hrel
    by_cases hkn : k < o.caps.length
    · obtain ⟨g, off, hA, hg1, c0, c1, c2⟩ := hr.cap hkn
      have hcf := hf.2.2 _ (List.getElem_mem hkn)
      rw [List.drop_eq_getElem_cons hkn] at hg
      subst hA
      obtain ⟨x, hx⟩ : ∃ x, o.caps[k] = x := ⟨_, rfl⟩
      rw [hx] at c0 c1 c2 hg hcf
      have e0 := (hb.cell (p := ⟨g, off + k * 3, none⟩) hg1).trans c0
      have e1 := (hb.cell (p := ⟨g, off + k * 3 + 1, none⟩) hg1).trans c1
      have e2 := (hb.cell (p := ⟨g, off + k * 3 + 2, none⟩) hg1).trans c2
      have HG := Lib.hid hg
      clear hg hx c0 c1 c2
      go_wp2
      go_loopw [5] (fun op w2 => PopRel (w.heap.size + 1) wr x st op w2) (fun op _ => sliceLen op)
      case atStart => exact ⟨st, A1, cap, 0, rfl, hown, rfl, Nat.le_refl _, rfl⟩
      case round =>
        obtain ⟨st', A2, cap2, q, rfl, hown2, hpop, hle, rfl⟩ := hrel
        cases st' with
        | nil =>
          have hp2 : popped x.fr st = [] := by rw [← hpop]; rfl
          have hstep := mayGo_step to x (o.caps.drop (k + 1)) st [] f hp2
          have HP := Lib.hid hstep
          clear hown hpop hp2 hstep
          have hd : decide (0 < ([] : List Int).length) = false := rfl
          go_wp2
          go_quiet (fail)
          by_cases q1 : nameMay x.name.data.toList = true
          · by_cases q2 : f ≤ x.fr
            · by_cases q3 : x.fr ≤ x.to
              · by_cases q4 : x.to ≤ to
                · go_wp2_with (first | (at_builtin; refine wpList_app_new ((wr.alloc (.cells #[.string x.name, .int .i64 x.fr, .int .i64 x.to] 45)).drewN (q + nq)) [.int .i64 x.to] 3 rfl (.tmp 111) (.tmp 114) 53 rfl 3 (.int .i64 0) 1 8 Tryd.underlying53 infoInt rfl (w.heap.size + 1) A2 0 cap2 (intVals []) (wr.heap.size + 1) 1 1 rfl rfl ((hown2.alloc _).drewN _) ?_ rfl ?_ ?_ ?_ ?_ ?_; (focus simp); (focus (intro u hu; simp at hu; subst hu; rfl)); (focus omega); (focus omega); (focus first | (simp; done) | (simp; omega)); intro A3 cap3 w3 hown3 hg3 hA3 hA3n) | (go_at_call 22; refine (may_any _ _ hcf.1).mono ?_; rintro e w' ⟨rfl, rfl⟩))
                  go_roundw
                  case rel =>
                        refine may_next (st := []) (n := 1) hb hz k0 k1 k2 hkn (by simp at hle ⊢; try omega) (by simp) hown3 hg3 ?_ ?_
                        · exact fun g hg => (hown2.lt g hg).1
                        · rw [HG.out, HP.out, if_pos (by simp [mostOf, q1, q2, q3, q4])]
                  case measure => simp [intOf]; omega
                · go_wp2_with ((go_at_call 22; refine (may_any _ _ hcf.1).mono ?_; rintro e w' ⟨rfl, rfl⟩))
                  go_ret
                  exact ⟨ret_bool (by rw [HG.out, HP.out]; exact (if_neg (fun h => by simp only [Bool.and_eq_true, decide_eq_true_eq] at h; exact absurd (show x.to ≤ to from h.2.2.2) (by omega))).symm), below_drewN (hb.alloc (Nat.le_of_lt hz) _) _⟩
              · go_wp2_with ((go_at_call 22; refine (may_any _ _ hcf.1).mono ?_; rintro e w' ⟨rfl, rfl⟩))
                go_ret
                exact ⟨ret_bool (by rw [HG.out, HP.out]; exact (if_neg (fun h => by simp only [Bool.and_eq_true, decide_eq_true_eq] at h; exact absurd h.2.2.1 (by omega))).symm), below_drewN (hb.alloc (Nat.le_of_lt hz) _) _⟩
            · go_wp2_with ((go_at_call 22; refine (may_any _ _ hcf.1).mono ?_; rintro e w' ⟨rfl, rfl⟩))
              go_ret
              exact ⟨ret_bool (by rw [HG.out, HP.out]; exact (if_neg (fun h => by simp only [Bool.and_eq_true, decide_eq_true_eq] at h; exact absurd h.2.1 (by omega))).symm), below_drewN (hb.alloc (Nat.le_of_lt hz) _) _⟩
          · go_wp2_with ((go_at_call 22; refine (may_any _ _ hcf.1).mono ?_; rintro e w' ⟨rfl, rfl⟩))
            go_ret
            exact ⟨ret_bool (by rw [HG.out, HP.out]; exact (if_neg (fun h => by simp only [Bool.and_eq_true, decide_eq_true_eq] at h; exact q1 h.1)).symm), below_drewN (hb.alloc (Nat.le_of_lt hz) _) _⟩
        | cons y st2 =>
          obtain ⟨g1, off1, rfl, hg1', hc1⟩ := hown2.rd.2 (by simp)
          have hy := hc1 st2.length (.int .i64 y) (by simp [intVals])
          have hle' : st2.length + 1 ≤ st.length := hle
          have hcap : st2.length + 1 ≤ cap2 := hown2.2.1
          by_cases hyf : y ≤ x.fr
          · have hpop2 : popped x.fr st2 = popped x.fr st := by rw [← hpop, popped, if_pos hyf]
            have HP2 := Lib.hid hpop2
            clear hpop2 hpop hown
            have s1 : IntKind.i64.wrap ((st2.length : Int) + 1 - 1) = (st2.length : Int) := by rw [IntWalk.i64_in _ (by omega)]; omega
            go_wp2
            go_quiet (fail)
            go_wp2
            go_roundw
            case rel => exact ⟨st2, _, _, _, rfl, intv_pop hown2, HP2.out, by omega, rfl⟩
            case measure => simp [sliceLen]
          · have hp2 : popped x.fr st = y :: st2 := by rw [← hpop, popped, if_neg hyf]
            have hstep := mayGo_step to x (o.caps.drop (k + 1)) st (y :: st2) f hp2
            have HP := Lib.hid hstep
            clear hown hpop hp2 hstep
            have s1 : IntKind.i64.wrap ((st2.length : Int) + 1 - 1) = (st2.length : Int) := by rw [IntWalk.i64_in _ (by omega)]; omega
            go_wp2
            go_quiet (fail)
            clear s1
            by_cases q1 : nameMay x.name.data.toList = true
            · by_cases q2 : f ≤ x.fr
              · by_cases q3 : x.fr ≤ x.to
                · by_cases q4 : x.to ≤ y
                  · go_wp2_with (first | (at_builtin; refine wpList_app_new ((wr.alloc (.cells #[.string x.name, .int .i64 x.fr, .int .i64 x.to] 45)).drewN (q + nq)) [.int .i64 x.to] 3 rfl (.tmp 111) (.tmp 114) 53 rfl 3 (.int .i64 0) 1 8 Tryd.underlying53 infoInt rfl (w.heap.size + 1) (some ⟨g1, off1, none⟩) (st2.length + 1) cap2 (intVals (y :: st2)) (wr.heap.size + 1) 1 1 rfl rfl ((hown2.alloc _).drewN _) ?_ rfl ?_ ?_ ?_ ?_ ?_; (focus simp); (focus (intro u hu; simp at hu; subst hu; rfl)); (focus omega); (focus omega); (focus first | (simp; done) | (simp; omega)); intro A3 cap3 w3 hown3 hg3 hA3 hA3n) | (go_at_call 22; refine (may_any _ _ hcf.1).mono ?_; rintro e w' ⟨rfl, rfl⟩))
                    go_roundw
                    case rel =>
                            refine may_next (st := y :: st2) (n := st2.length + 1 + 1) hb hz k0 k1 k2 hkn (by simp at hle ⊢; try omega) (by simp) hown3 hg3 ?_ ?_
                            · exact fun g hg => (hown2.lt g hg).1
                            · rw [HG.out, HP.out, if_pos (by simp [mostOf, q1, q2, q3, q4])]
                    case measure => simp [intOf]; omega
                  · go_wp2_with ((go_at_call 22; refine (may_any _ _ hcf.1).mono ?_; rintro e w' ⟨rfl, rfl⟩))
                    go_ret
                    exact ⟨ret_bool (by rw [HG.out, HP.out]; exact (if_neg (fun h => by simp only [Bool.and_eq_true, decide_eq_true_eq] at h; exact absurd (show x.to ≤ y from h.2.2.2) (by omega))).symm), below_drewN (hb.alloc (Nat.le_of_lt hz) _) _⟩
                · go_wp2_with ((go_at_call 22; refine (may_any _ _ hcf.1).mono ?_; rintro e w' ⟨rfl, rfl⟩))
                  go_ret
                  exact ⟨ret_bool (by rw [HG.out, HP.out]; exact (if_neg (fun h => by simp only [Bool.and_eq_true, decide_eq_true_eq] at h; exact absurd h.2.2.1 (by omega))).symm), below_drewN (hb.alloc (Nat.le_of_lt hz) _) _⟩
              · go_wp2_with ((go_at_call 22; refine (may_any _ _ hcf.1).mono ?_; rintro e w' ⟨rfl, rfl⟩))
                go_ret
                exact ⟨ret_bool (by rw [HG.out, HP.out]; exact (if_neg (fun h => by simp only [Bool.and_eq_true, decide_eq_true_eq] at h; exact absurd h.2.1 (by omega))).symm), below_drewN (hb.alloc (Nat.le_of_lt hz) _) _⟩
            · go_wp2_with ((go_at_call 22; refine (may_any _ _ hcf.1).mono ?_; rintro e w' ⟨rfl, rfl⟩))
              go_ret
              exact ⟨ret_bool (by rw [HG.out, HP.out]; exact (if_neg (fun h => by simp only [Bool.and_eq_true, decide_eq_true_eq] at h; exact q1 h.1)).symm), below_drewN (hb.alloc (Nat.le_of_lt hz) _) _⟩
    · obtain rfl : k = o.caps.length := by omega
      have HG := Lib.hid hg
      clear hg
      go_wp2
      go_ret
      exact ⟨ret_bool (by rw [HG.out, List.drop_length, mayGo]), hb⟩

set_option maxRecDepth 100000 in
set_option maxHeartbeats 1000000 in
theorem spanMay_no (w : World) (A : Option Addr) (c : Nat) (ok : Bool) (to : Int) (m : Nat) (n : Int) (hm : m ≤ maxLen)
    (h : n < 0 ∨ 4096 < n ∨ (ok = true ∧ (to < 0 ∨ n < to ∨ 65536 < m))) :
    Calls Tryd.prog 13 #[.agg #[.bool ok, .int .i64 to, .slice A m c], .int .i64 n] w fun e w' => e = .returned (.bool false) ∧ Below w.heap.size w w' := by
  unfold maxLen at hm
  have hb0 : ∀ o, Below w.heap.size w (w.alloc o) := fun o => (Below.refl _ _).alloc (Nat.le_refl _) o
  by_cases q1 : n < 0
  · clear h
    go_enter Tryd.func13, Tryd.ntmps13
    go_wp2
    go_ret
    exact ⟨rfl, hb0 _⟩
  by_cases q2 : 4096 < n
  · clear h
    go_enter Tryd.func13, Tryd.ntmps13
    go_wp2
    go_ret
    exact ⟨rfl, hb0 _⟩
  have h2 : ok = true ∧ (to < 0 ∨ n < to ∨ 65536 < m) := by
    rcases h with h | h | h
    · omega
    · omega
    · exact h
  clear h
  obtain ⟨rfl, h2⟩ := h2
  by_cases q3 : to < 0
  · clear h2
    go_enter Tryd.func13, Tryd.ntmps13
    go_wp2
    go_ret
    exact ⟨rfl, hb0 _⟩
  by_cases q4 : n < to
  · clear h2
    go_enter Tryd.func13, Tryd.ntmps13
    go_wp2
    go_ret
    exact ⟨rfl, hb0 _⟩
  have q5 : 65536 < m := by omega
  clear h2
  go_enter Tryd.func13, Tryd.ntmps13
  go_wp2
  go_ret
  exact ⟨rfl, hb0 _⟩

set_option maxRecDepth 100000 in
set_option maxHeartbeats 1000000 in
theorem spanMay_fail (w : World) (A : Option Addr) (c : Nat) (to : Int) (m : Nat) (n : Int) (_hm : m ≤ maxLen) (hn0 : 0 ≤ n) (hn1 : n ≤ 4096) :
    Calls Tryd.prog 13 #[.agg #[.bool false, .int .i64 to, .slice A m c], .int .i64 n] w fun e w' => e = .returned (.bool (to == 0 && m == 0)) ∧ Below w.heap.size w w' := by
  unfold maxLen at _hm
  have hb0 : ∀ o, Below w.heap.size w (w.alloc o) := fun o => (Below.refl _ _).alloc (Nat.le_refl _) o
  go_enter Tryd.func13, Tryd.ntmps13
  go_wp2
  all_goals (go_ret; refine ⟨ret_bool ?_, hb0 _⟩)
  all_goals (rw [Bool.eq_iff_iff]; simp [*]; try omega)

/-- span.May says 'mayB'. -/
theorem spanMay_any (w : World) (x : OutV) (n : Int) (hr : x.rd w w.heap.size) (hf : x.o.fits) :
    Calls Tryd.prog 13 #[x.val, .int .i64 n] w fun e w' => e = .returned (.bool (mayB x.o n)) ∧ Below w.heap.size w w' := by
  obtain ⟨⟨ok, to, caps⟩, A, c⟩ := x
  by_cases h : n < 0 ∨ 4096 < n ∨ (ok = true ∧ (to < 0 ∨ n < to ∨ 65536 < caps.length))
  · refine (spanMay_no w A c ok to caps.length n hf.2.1 h).mono fun e w' ⟨he, hb⟩ => ⟨he.trans (ret_bool ?_), hb⟩
    symm
    unfold mayB
    rcases h with h | h | ⟨rfl, h⟩
    · simp; intro h'; omega
    · simp; intro _ h'; omega
    · simp; intros; omega
  · have h1 : 0 ≤ n ∧ n ≤ 4096 := by omega
    cases ok
    · refine (spanMay_fail w A c to caps.length n hf.2.1 h1.1 h1.2).mono fun e w' ⟨he, hb⟩ => ⟨he.trans (ret_bool ?_), hb⟩
      simp [mayB, h1]
    · have h2 : 0 ≤ to ∧ to ≤ n ∧ caps.length ≤ 65536 := by simp at h; omega
      refine (spanMay_ok w A c ⟨true, to, caps⟩ n hr hf rfl h1.1 h1.2 h2.1 h2.2.1 h2.2.2).mono fun e w' ⟨he, hb⟩ => ⟨he.trans (ret_bool ?_), hb⟩
      simp [mayB, h1, h2]
end Go.Proofs.YtnmnbefbadhkgaaDoor
