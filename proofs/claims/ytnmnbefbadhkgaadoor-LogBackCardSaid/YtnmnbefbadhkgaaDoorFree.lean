/-
  A REGION THAT DRAWS ITS ORDER, some of whose operations make memory and yield what no fact fixes (a new address): ONE WALK IN THE ORDER OF THE TEXT SERVES EVERY ORDER, if of each such operation two words are laid ahead: what its value looks like (rho: of no world), and what holds of it in a world (R: it stays as memory grows). The last operations may be a tail that waits for all of the others (a store).
-/
import Derived.WalkKit
import Derived.StillTail
import Derived.Deep.QuietTactic
namespace Go.Proofs.YtnmnbefbadhkgaaDoor
open Go Go.RowKit

abbrev Facts := Nat → World → Prop
def upd (F : Facts) (k : Nat) (φ : World → Prop) : Facts := fun i => if i = k then φ else F i
theorem upd_comm (F : Facts) {i j : Nat} (h : i ≠ j) (φ ψ : World → Prop) : upd (upd F i φ) j ψ = upd (upd F j ψ) i φ := by
  funext k
  unfold upd
  by_cases h1 : k = j <;> by_cases h2 : k = i <;> simp_all

/-- The blocks that free operations have made. -/
abbrev Borns := Nat → Option Nat
def updG (G : Borns) (k : Nat) (b : Option Nat) : Borns := fun i => if i = k then b else G i
theorem updG_comm (G : Borns) {i j : Nat} (h : i ≠ j) (b c : Option Nat) : updG (updG G i b) j c = updG (updG G j c) i b := by
  funext k
  unfold updG
  by_cases h1 : k = j <;> by_cases h2 : k = i <;> simp_all
def Differ (G : Borns) (i j : Nat) : Prop := ∀ g, G i = some g → G j ≠ some g

structure FreeSpec where
  rho : Value → Prop
  R : Value → World → Prop
  born : Value → Option Nat
/-- What a free operation comes to. -/
def FreeSpec.post (s : FreeSpec) (w : World) (v : Value) (w' : World) : Prop := s.rho v ∧ s.R v w' ∧ (∀ g, s.born v = some g → w.heap.size ≤ g ∧ g < w'.heap.size) ∧ Below w.heap.size w w'

def Stays (φ : World → Prop) : Prop := ∀ w w', φ w → Below w.heap.size w w' → φ w'

section
variable {P : Program} {ops : Array Oper} {md : Region.Mode} {C : World → Prop} {S : Nat → Option FreeSpec} {A : Nat → Nat → Bool} {Q : Act → World → Prop}

def doesUpon (P : Program) (R : Value → World → Prop) : Result Next → Prop
  | .ok (.value u) w' => R u w'
  | .ok (.enter f args) w' => Calls P f args w' (fun e w'' => ∃ v, e = .returned v ∧ R v w'')
  | _ => False
def does (P : Program) (o : Oper) (a : Act) (w : World) (R : Value → World → Prop) : Prop := doesUpon P R ((execOp a.eval o).run P w)
def gives (P : Program) (o : Oper) (a : Act) (w : World) (v : Value) : Prop := (execOp a.eval o).run P w = .ok (.value v) w

def Walk (P : Program) (ops : Array Oper) (C : World → Prop) (S : Nat → Option FreeSpec) (A : Nat → Nat → Bool) (Q : Act → World → Prop) : List (Nat × Oper) → Act → Facts → Borns → Prop
  | [], a, F, G => ∀ w, C w → (∀ k, F k w) → (∀ i j, i ≠ j → Differ G i j) → Q a w
  | (k, o) :: l, a, F, G =>
    if Region.wanted o (yielded ops a.tmps) = true then
      match S k with
      | none => ∃ v, (∀ w, C w → (∀ i, A k i = true → F i w) → gives P o a w v) ∧ Walk P ops C S A Q l (a.put o.dst v) F G
      | some s => (∀ w, C w → (∀ i, A k i = true → F i w) → (∀ i j, A k i = true → A k j = true → i ≠ j → Differ G i j) → does P o a w (s.post w)) ∧ ∀ v, s.rho v → Walk P ops C S A Q l (a.put o.dst v) (upd F k (s.R v)) (updG G k (s.born v))
    else Walk P ops C S A Q l (a.put o.dst undef) F G

/-- Operation j, carried out now, in this world. -/
def Step (P : Program) (ops : Array Oper) (S : Nat → Option FreeSpec) (j : Nat) (o : Oper) (a : Act) (w : World) (K : Act → Facts → Borns → Prop) (F : Facts) (G : Borns) : Prop :=
  if Region.wanted o (yielded ops a.tmps) = true then
    match S j with
    | none => ∃ v, gives P o a w v ∧ K (a.put o.dst v) F G
    | some s => does P o a w (s.post w) ∧ ∀ v, s.rho v → K (a.put o.dst v) (upd F j (s.R v)) (updG G j (s.born v))
  else K (a.put o.dst undef) F G

theorem pull {w : World} (hC : C w) {j : Nat} {oj : Oper} (hsj : ∀ cs b, oj.op ≠ .select cs b) (hS : ∀ k s, S k = some s → ∃ v, s.rho v) (l2 : List (Nat × Oper)) :
    ∀ (l1 : List (Nat × Oper)) (a : Act) (F : Facts) (G : Borns), (∀ x ∈ l1, x.1 ≠ j ∧ A j x.1 = false ∧ x.2.apart ops oj = true ∧ ∀ cs b, x.2.op ≠ .select cs b) → (∀ i, A j i = true → F i w) → (∀ w', F j w') → (∀ i i', A j i = true → A j i' = true → i ≠ i' → Differ G i i') → G j = none →
    Walk P ops C S A Q (l1 ++ (j, oj) :: l2) a F G → Step P ops S j oj a w (Walk P ops C S A Q (l1 ++ l2)) F G
  | [], a, F, G, _, hF, _, hG, _, h => by
    unfold Step
    simp only [List.nil_append, Walk] at h
    split
    · rename_i hw
      rw [if_pos hw] at h
      cases hs : S j with
      | none =>
        simp only [hs] at h
        obtain ⟨v, h1, h2⟩ := h
        exact ⟨v, h1 w hC hF, h2⟩
      | some s =>
        simp only [hs] at h
        exact ⟨h.1 w hC hF hG, h.2⟩
    · rename_i hw
      rwa [if_neg hw] at h
  | (i, oi) :: l1, a, F, G, hl, hF, hj0, hG, hGj, h => by
    obtain ⟨hij, hAji, hap, hsi⟩ := hl (i, oi) (by simp)
    obtain ⟨p1, p2, p3⟩ := Oper.apart_spec hap
    have hl' : ∀ x ∈ l1, x.1 ≠ j ∧ A j x.1 = false ∧ x.2.apart ops oj = true ∧ ∀ cs b, x.2.op ≠ .select cs b := fun x hx => hl x (List.mem_cons_of_mem _ hx)
    have wj : ∀ u, Region.wanted oj (yielded ops (a.put oi.dst u).tmps) = Region.wanted oj (yielded ops a.tmps) := fun u => wanted_put oj a oi.dst u p1
    have ej : ∀ u, execOp (a.put oi.dst u).eval oj = execOp a.eval oj := fun u => execOp_put oj hsj a oi.dst u p1
    have wi : ∀ u, Region.wanted oi (yielded ops (a.put oj.dst u).tmps) = Region.wanted oi (yielded ops a.tmps) := fun u => wanted_put oi a oj.dst u p3
    have ei : ∀ u, execOp (a.put oj.dst u).eval oi = execOp a.eval oi := fun u => execOp_put oi hsi a oj.dst u p3
    have pc : ∀ u v, (a.put oi.dst u).put oj.dst v = (a.put oj.dst v).put oi.dst u := fun u v => Act.put_comm a u v p2
    have hFu : ∀ φ, ∀ k, A j k = true → upd F i φ k w := fun φ k hk => by
      unfold upd
      rw [if_neg (fun e => by subst e; rw [hAji] at hk; cases hk)]
      exact hF k hk
    have hdrop : ∀ (ψ : World → Prop) (w' : World), (∀ k, A i k = true → upd F j ψ k w') → ∀ k, A i k = true → F k w' := fun ψ w' h k hk => by
      by_cases e : k = j
      · subst e; exact hj0 w'
      · have := h k hk
        unfold upd at this
        rwa [if_neg e] at this
    have hj1 : ∀ φ, ∀ w', upd F i φ j w' := fun φ w' => by
      unfold upd
      rw [if_neg (fun e => hij e.symm)]
      exact hj0 w'
    have hGu : ∀ b, ∀ k k', A j k = true → A j k' = true → k ≠ k' → Differ (updG G i b) k k' := fun b k k' hk hk' hne => by
      have e1 : k ≠ i := fun e => by subst e; rw [hAji] at hk; cases hk
      have e2 : k' ≠ i := fun e => by subst e; rw [hAji] at hk'; cases hk'
      unfold Differ updG
      rw [if_neg e1, if_neg e2]
      exact hG k k' hk hk' hne
    have hGj1 : ∀ b, updG G i b j = none := fun b => by
      unfold updG
      rw [if_neg (fun e => hij e.symm)]
      exact hGj
    have hGd : ∀ b, (∀ k k', A i k = true → A i k' = true → k ≠ k' → Differ (updG G j b) k k') → ∀ k k', A i k = true → A i k' = true → k ≠ k' → Differ G k k' := fun b h k k' hk hk' hne => by
      have := h k k' hk hk' hne
      unfold Differ updG at this
      unfold Differ
      by_cases e1 : k = j
      · subst e1; intro g hg; rw [hGj] at hg; cases hg
      · by_cases e2 : k' = j
        · subst e2; intro g _ hg; rw [hGj] at hg; cases hg
        · rwa [if_neg e1, if_neg e2] at this
    simp only [List.cons_append, Walk] at h
    by_cases hwi : Region.wanted oi (yielded ops a.tmps) = true
    · rw [if_pos hwi] at h
      cases hsI : S i with
      | none =>
        simp only [hsI] at h
        obtain ⟨u, hu, h⟩ := h
        have ih := pull hC hsj hS l2 l1 (a.put oi.dst u) F G hl' hF hj0 hG hGj h
        unfold Step at ih ⊢
        rw [wj] at ih
        split
        · rename_i hw
          rw [if_pos hw] at ih
          cases hs : S j with
          | none =>
            simp only [hs] at ih
            obtain ⟨v, g, ih⟩ := ih
            refine ⟨v, by unfold gives at g ⊢; rwa [ej] at g, ?_⟩
            simp only [List.cons_append, Walk]
            rw [wi, if_pos hwi]
            simp only [hsI]
            exact ⟨u, fun w' hC' hF' => by unfold gives; rw [ei]; exact hu w' hC' hF', by rw [← pc]; exact ih⟩
          | some s =>
            simp only [hs] at ih
            refine ⟨by have := ih.1; unfold does at this ⊢; rwa [ej] at this, fun v hv => ?_⟩
            simp only [List.cons_append, Walk]
            rw [wi, if_pos hwi]
            simp only [hsI]
            exact ⟨u, fun w' hC' hF' => by unfold gives; rw [ei]; exact hu w' hC' (hdrop _ w' hF'), by rw [← pc]; exact ih.2 v hv⟩
        · rename_i hw
          rw [if_neg hw] at ih
          simp only [List.cons_append, Walk]
          rw [wi, if_pos hwi]
          simp only [hsI]
          exact ⟨u, fun w' hC' hF' => by unfold gives; rw [ei]; exact hu w' hC' hF', by rw [← pc]; exact ih⟩
      | some si =>
        simp only [hsI] at h
        obtain ⟨hdo, h⟩ := h
        have ih := fun u hu => pull hC hsj hS l2 l1 (a.put oi.dst u) (upd F i (si.R u)) (updG G i (si.born u)) hl' (hFu _) (hj1 _) (hGu _) (hGj1 _) (h u hu)
        obtain ⟨u0, hu0⟩ := hS i si hsI
        have ih0 := ih u0 hu0
        unfold Step at ih ih0 ⊢
        rw [wj] at ih0
        split
        · rename_i hw
          rw [if_pos hw] at ih0
          cases hs : S j with
          | none =>
            simp only [hs] at ih0
            obtain ⟨v, g, _⟩ := ih0
            have gv : gives P oj a w v := by unfold gives at g ⊢; rwa [ej] at g
            refine ⟨v, gv, ?_⟩
            simp only [List.cons_append, Walk]
            rw [wi, if_pos hwi]
            simp only [hsI]
            refine ⟨fun w' hC' hF' hG' => by unfold does; rw [ei]; exact hdo w' hC' hF' hG', fun u hu => ?_⟩
            have ihu := ih u hu
            rw [wj, if_pos hw] at ihu
            simp only [hs] at ihu
            obtain ⟨v', g', ihu⟩ := ihu
            have e : v' = v := by
              unfold gives at g' gv
              rw [ej, gv] at g'
              injection g' with g' _
              injection g' with g'
              exact g'.symm
            rw [← pc, ← e]
            exact ihu
          | some s =>
            simp only [hs] at ih0
            refine ⟨by have := ih0.1; unfold does at this ⊢; rwa [ej] at this, fun v hv => ?_⟩
            simp only [List.cons_append, Walk]
            rw [wi, if_pos hwi]
            simp only [hsI]
            refine ⟨fun w' hC' hF' hG' => by unfold does; rw [ei]; exact hdo w' hC' (hdrop _ w' hF') (hGd _ hG'), fun u hu => ?_⟩
            have ihu := ih u hu
            rw [wj, if_pos hw] at ihu
            simp only [hs] at ihu
            rw [← pc, upd_comm F (Ne.symm hij), updG_comm G (Ne.symm hij)]
            exact ihu.2 v hv
        · rename_i hw
          simp only [List.cons_append, Walk]
          rw [wi, if_pos hwi]
          simp only [hsI]
          refine ⟨fun w' hC' hF' hG' => by unfold does; rw [ei]; exact hdo w' hC' hF' hG', fun u hu => ?_⟩
          have ihu := ih u hu
          rw [wj, if_neg hw] at ihu
          rw [← pc]
          exact ihu
    · rw [if_neg hwi] at h
      have ih := pull hC hsj hS l2 l1 (a.put oi.dst undef) F G hl' hF hj0 hG hGj h
      unfold Step at ih ⊢
      rw [wj] at ih
      split
      · rename_i hw
        rw [if_pos hw] at ih
        cases hs : S j with
        | none =>
          simp only [hs] at ih
          obtain ⟨v, g, ih⟩ := ih
          refine ⟨v, by unfold gives at g ⊢; rwa [ej] at g, ?_⟩
          simp only [List.cons_append, Walk]
          rw [wi, if_neg hwi, ← pc]
          exact ih
        | some s =>
          simp only [hs] at ih
          refine ⟨by have := ih.1; unfold does at this ⊢; rwa [ej] at this, fun v hv => ?_⟩
          simp only [List.cons_append, Walk]
          rw [wi, if_neg hwi, ← pc]
          exact ih.2 v hv
      · rename_i hw
        rw [if_neg hw] at ih
        simp only [List.cons_append, Walk]
        rw [wi, if_neg hwi, ← pc]
        exact ih

/-- Every operation of the head waits for earlier ones alone, and of each two one waits for the other or they are apart. -/
def headB (md : Region.Mode) (ops : Array Oper) (n : Nat) : Bool :=
  Region.noSelect ops && (List.range n).all fun j => match ops[j]? with
    | some oj => (oj.after.all fun e => !Region.binds md e || decide (e.on < j)) && (List.range j).all fun i => match ops[i]? with
      | some oi => Region.waitsFor md ops j i || oi.apart ops oj
      | none => false
    | none => false
theorem headB_spec {n : Nat} (h : headB md ops n = true) : (∀ (j : Nat) (o : Oper), ops[j]? = some o → ∀ cs b, o.op ≠ Op.select cs b) ∧
    ∀ j, j < n → ∃ oj, ops[j]? = some oj ∧ (∀ e ∈ oj.after, Region.binds md e = true → e.on < j) ∧ ∀ i, i < j → ∃ oi, ops[i]? = some oi ∧ (Region.waitsFor md ops j i = true ∨ oi.apart ops oj = true) := by
  simp only [headB, Bool.and_eq_true] at h
  refine ⟨fun j o ho cs b => Region.noSelect_spec h.1 j o cs b ho, fun j hj => ?_⟩
  have h1 := List.all_eq_true.1 h.2 j (List.mem_range.2 hj)
  split at h1
  · rename_i oj ho
    simp only [Bool.and_eq_true] at h1
    refine ⟨oj, ho, fun e he hb => ?_, fun i hi => ?_⟩
    · have := Array.all_eq_true_iff_forall_mem.1 h1.1 e he
      simpa [hb] using this
    · have h2 := List.all_eq_true.1 h1.2 i (List.mem_range.2 hi)
      split at h2
      · rename_i oi hoi
        exact ⟨oi, hoi, by simpa using h2⟩
      · cases h2
  · cases h1

/-- What has come up: closed; behind the head just what was taken ahead. -/
structure HInv (md : Region.Mode) (ops : Array Oper) (n : Nat) (ini listed : Array Bool) : Prop where
  size : listed.size = ops.size
  closed : ∀ j oj, ops[j]? = some oj → listed.getD j false = true → ∀ e ∈ oj.after, Region.binds md e = true → listed.getD e.on false = true
  tail : ∀ t, n ≤ t → t < ops.size → listed.getD t true = ini.getD t true
theorem HInv.set {n i : Nat} {ini listed : Array Bool} (inv : HInv md ops n ini listed) (hi : i ∈ Region.ready md ops listed) (hin : i < n) : HInv md ops n ini (listed.setIfInBounds i true) := by
  obtain ⟨_, oi, hoi, hall⟩ := mem_ready.1 hi
  refine ⟨by simp [inv.size], fun j oj hj hl e he hb => ?_, fun t ht ht' => by rw [getD_set_ne true (by omega)]; exact inv.tail t ht ht'⟩
  by_cases hij : i = j
  · subst hij
    have : oj = oi := Option.some.inj (hj.symm.trans hoi)
    subst this
    exact getD_set_true (hall e he hb)
  · rw [getD_set_ne false hij] at hl
    exact getD_set_true (inv.closed j oj hj hl e he hb)

/-- j waits for i, through others too. -/
def ancB (md : Region.Mode) (ops : Array Oper) : Nat → Nat → Nat → Bool
  | 0, _, _ => false
  | f + 1, j, i => match ops[j]? with
    | some o => o.after.any fun e => Region.binds md e && (e.on == i || ancB md ops f e.on i)
    | none => false
theorem ancB_listed {n : Nat} {ini listed : Array Bool} (inv : HInv md ops n ini listed) : ∀ (f j i : Nat), ancB md ops f j i = true → (∀ o, ops[j]? = some o → ∀ e ∈ o.after, Region.binds md e = true → listed.getD e.on false = true) → listed.getD i false = true
  | 0, _, _, h, _ => by cases h
  | f + 1, j, i, h, hj => by
    unfold ancB at h
    split at h
    · rename_i o ho
      obtain ⟨e, he, hb⟩ := Array.any_eq_true'.1 h
      simp only [Bool.and_eq_true, Bool.or_eq_true, beq_iff_eq] at hb
      have hl := hj o ho e he hb.1
      rcases hb.2 with rfl | h2
      · exact hl
      · exact ancB_listed inv f e.on i h2 fun o' ho' e' he' hb' => inv.closed e.on o' ho' hl e' he' hb'
    · cases h

/-- The head's operations that have not come up, in the order of the text. -/
structure Left (ops : Array Oper) (n : Nat) (listed : Array Bool) (L : List (Nat × Oper)) : Prop where
  mem : ∀ x ∈ L, ops[x.1]? = some x.2 ∧ x.1 < n ∧ listed.getD x.1 true = false
  all : ∀ i, i < n → listed.getD i true = false → ∃ o, (i, o) ∈ L
  sorted : L.Pairwise fun x y => x.1 < y.1

theorem pairwise_split {l1 l2 : List (Nat × Oper)} {x : Nat × Oper} (h : (l1 ++ x :: l2).Pairwise fun x y => x.1 < y.1) : (∀ y ∈ l1, y.1 < x.1) ∧ (∀ y ∈ l2, x.1 < y.1) ∧ (l1 ++ l2).Pairwise fun x y => x.1 < y.1 := by
  rw [List.pairwise_append] at h
  obtain ⟨h1, h2, h3⟩ := h
  rw [List.pairwise_cons] at h2
  refine ⟨fun y hy => h3 y hy x (by simp), h2.1, ?_⟩
  rw [List.pairwise_append]
  exact ⟨h1, h2.2, fun a ha b hb => h3 a ha b (List.mem_cons_of_mem _ hb)⟩

theorem wp_of_does {o : Oper} {a : Act} {w : World} {R : Value → World → Prop} {K : Act → World → Prop} {Q' : Exit → Act → World → Prop} (h : does P o a w R) (hK : ∀ v w', R v w' → K (a.put o.dst v) w') : o.wp P a w K Q' := by
  unfold does at h
  unfold Oper.wp
  generalize (execOp a.eval o).run P w = r at *
  cases r with
  | ok nx w' =>
    cases nx <;> simp only [doesUpon] at h <;> simp only [Oper.upon]
    case value u => exact hK _ _ h
    case enter f args =>
      refine h.mono fun e w'' he => ?_
      obtain ⟨v, rfl, hr⟩ := he
      exact hK _ _ hr
  | halt x w' => simp only [doesUpon] at h

theorem wpAny_of_walk {n g f0 : Nat} {ini : Array Bool} {Q' : Exit → Act → World → Prop} (hB : headB md ops n = true)
    (hA : ∀ j i, A j i = true → ancB md ops f0 j i = true)
    (hwait : ∀ listed, HInv md ops n ini listed → (∃ i, i < n ∧ listed.getD i true = false) → ∀ t ∈ Region.ready md ops listed, t < n)
    (hS : ∀ k s, S k = some s → (∃ v, s.rho v) ∧ ∀ v, Stays (s.R v)) (hC : Stays C)
    (hdone : ∀ listed a w, HInv md ops n ini listed → (∀ i, i < n → listed.getD i true = true) → Q a w → wpAny P md ops Q' g listed a w) :
    ∀ (f : Nat) (L : List (Nat × Oper)) (listed : Array Bool) (a : Act) (w : World) (F : Facts) (G : Borns), L.length = f → n ≤ ops.size → HInv md ops n ini listed → Left ops n listed L → (∀ i, listed.getD i false = false → G i = none ∧ ∀ w', F i w') → (∀ k, Stays (F k)) → (∀ i g, G i = some g → g < w.heap.size) → (∀ i j, i ≠ j → Differ G i j) →
      Walk P ops C S A Q L a F G → C w → (∀ k, F k w) → wpAny P md ops Q' (f + g) listed a w
  | 0, L, listed, a, w, F, G, hl, _, inv, left, _, _, _, hG, h, hw, hF => by
    obtain rfl : L = [] := List.eq_nil_of_length_eq_zero hl
    rw [Nat.zero_add]
    refine hdone listed a w inv (fun i hi => ?_) (h w hw hF hG)
    cases e : listed.getD i true with
    | true => rfl
    | false => obtain ⟨o, ho⟩ := left.all i hi e; simp at ho
  | f + 1, L, listed, a, w, F, G, hl, hn, inv, left, hF0, hFs, hGl, hG, h, hw, hF => by
    obtain ⟨hsel, hhead⟩ := headB_spec hB
    rw [show f + 1 + g = (f + g) + 1 by omega]
    have hex : ∃ i, i < n ∧ listed.getD i true = false := by
      cases L with
      | nil => simp at hl
      | cons x l => exact ⟨x.1, (left.mem x (by simp)).2.1, (left.mem x (by simp)).2.2⟩
    refine ⟨fun h0 => ?_, fun j hj => ?_⟩
    · exfalso
      cases L with
      | nil => simp at hl
      | cons x l =>
        obtain ⟨hx, hxn, hxl⟩ := left.mem x (by simp)
        obtain ⟨oj, hoj, hback, _⟩ := hhead x.1 hxn
        have hr : x.1 ∈ Region.ready md ops listed := by
          refine mem_ready.2 ⟨hxl, oj, hoj, fun e he hb => ?_⟩
          have hlt := hback e he hb
          cases hc : listed.getD e.on true with
          | true =>
            have hsz : e.on < listed.size := by rw [inv.size]; omega
            simp [hsz] at hc ⊢
            exact hc
          | false =>
            obtain ⟨o, ho⟩ := left.all e.on (by omega) hc
            have := (List.pairwise_cons.1 left.sorted).1
            rcases List.mem_cons.1 ho with rfl | ho
            · simp at hlt
            · have := this _ ho
              simp at this
              omega
        rw [h0] at hr
        cases hr
    · have hjn := hwait listed inv hex j hj
      obtain ⟨hjun, oj, hoj, hjall⟩ := mem_ready.1 hj
      obtain ⟨o', ho'⟩ := left.all j hjn hjun
      have eo : o' = oj := Option.some.inj ((left.mem _ ho').1.symm.trans hoj)
      rw [eo] at ho'
      clear eo
      obtain ⟨l1, l2, rfl⟩ := List.append_of_mem ho'
      obtain ⟨s1, s2, s3⟩ := pairwise_split left.sorted
      obtain ⟨oj2, hoj2, hback, hpair⟩ := hhead j hjn
      have eo := Option.some.inj (hoj2.symm.trans hoj)
      rw [eo] at hback hpair
      clear eo hoj2
      have hanc : ∀ i, listed.getD i true = false → A j i = false := fun i hi => by
        cases e : A j i with
        | false => rfl
        | true =>
          have := ancB_listed inv f0 j i (hA j i e) (fun o ho e he hb => by
            have eo := Option.some.inj (ho.symm.trans hoj)
            rw [eo] at he
            exact hjall e he hb)
          rw [getD_both hi] at this
          cases this
      have hl1 : ∀ x ∈ l1, x.1 ≠ j ∧ A j x.1 = false ∧ x.2.apart ops oj = true ∧ ∀ cs b, x.2.op ≠ .select cs b := fun x hx => by
        obtain ⟨hx1, hx2, hx3⟩ := left.mem x (by simp [hx])
        have hlt := s1 x hx
        simp at hlt
        refine ⟨by omega, hanc x.1 hx3, ?_, fun cs b => hsel x.1 x.2 hx1 cs b⟩
        obtain ⟨oi, hoi, hp⟩ := hpair x.1 hlt
        have eo := Option.some.inj (hoi.symm.trans hx1)
        rw [eo] at hp
        rcases hp with hp | hp
        · exfalso
          obtain ⟨oj', hoj', e, he, hb, hon⟩ := Region.waitsFor_spec hp
          have eo := Option.some.inj (hoj'.symm.trans hoj)
          rw [eo] at he
          have := hjall e he hb
          rw [hon, getD_both hx3] at this
          cases this
        · exact hp
      have hst := pull hw (hsel j oj hoj) (fun k s hs => (hS k s hs).1) l2 l1 a F G hl1 (fun i _ => hF i) (hF0 j (getD_both hjun)).2 (fun i i' _ _ => hG i i') (hF0 j (getD_both hjun)).1 h
      have inv' := inv.set hj hjn
      have left' : Left ops n (listed.setIfInBounds j true) (l1 ++ l2) := by
        refine ⟨fun x hx => ?_, fun i hi hun => ?_, s3⟩
        · have hxm : x ∈ l1 ++ (j, oj) :: l2 := by
            rcases List.mem_append.1 hx with hx | hx <;> simp [hx]
          obtain ⟨hx1, hx2, hx3⟩ := left.mem x hxm
          have hne : j ≠ x.1 := by
            rcases List.mem_append.1 hx with hx | hx
            · have := s1 x hx; simp at this; omega
            · have := s2 x hx; simp at this; omega
          exact ⟨hx1, hx2, by rw [getD_set_ne true hne]; exact hx3⟩
        · have hne : j ≠ i := fun e => by
            subst e
            have : j < listed.size := by rw [inv.size]; omega
            simp [this] at hun
          rw [getD_set_ne true hne] at hun
          obtain ⟨o, ho⟩ := left.all i hi hun
          refine ⟨o, ?_⟩
          rcases List.mem_append.1 ho with ho | ho
          · simp [ho]
          · rcases List.mem_cons.1 ho with ho | ho
            · exact absurd (congrArg Prod.fst ho).symm hne
            · simp [ho]
      have hlen : (l1 ++ l2).length = f := by simp at hl ⊢; omega
      have hF0' : ∀ (φ : World → Prop) (b : Option Nat) i, (listed.setIfInBounds j true).getD i false = false → updG G j b i = none ∧ ∀ w', upd F j φ i w' := fun φ b i hi => by
        have hne : i ≠ j := fun e => by
          subst e
          have : i < listed.size := by rw [inv.size]; omega
          simp [this] at hi
        unfold upd updG
        rw [if_neg hne]
        rw [getD_set_ne false (Ne.symm hne)] at hi
        refine ⟨(hF0 i hi).1, fun w' => ?_⟩
        rw [if_neg hne]
        exact (hF0 i hi).2 w'
      have hF1 : ∀ i, (listed.setIfInBounds j true).getD i false = false → G i = none ∧ ∀ w', F i w' := fun i hi => by
        have hne : i ≠ j := fun e => by
          subst e
          have : i < listed.size := by rw [inv.size]; omega
          simp [this] at hi
        rw [getD_set_ne false (Ne.symm hne)] at hi
        exact hF0 i hi
      have again := wpAny_of_walk hB hA hwait hS hC hdone f (l1 ++ l2) (listed.setIfInBounds j true)
      unfold Step at hst
      unfold wpOp
      simp only [hoj]
      split
      · rename_i hwt
        rw [if_pos hwt] at hst
        refine .inl ?_
        cases hs : S j with
        | none =>
          simp only [hs] at hst
          obtain ⟨v, g1, g2⟩ := hst
          unfold Oper.wp
          unfold gives at g1
          rw [g1]
          exact again _ w F G hlen hn inv' left' hF1 hFs hGl hG g2 hw hF
        | some s =>
          simp only [hs] at hst
          refine wp_of_does hst.1 fun v w' hr => ?_
          obtain ⟨r1, r2, r4, r3⟩ := hr
          have hGnew : ∀ i g, updG G j (s.born v) i = some g → g < w'.heap.size := fun i g hi => by
            unfold updG at hi
            split at hi
            · exact (r4 g hi).2
            · exact Nat.lt_of_lt_of_le (hGl i g hi) r3.size
          have hDnew : ∀ i i', i ≠ i' → Differ (updG G j (s.born v)) i i' := fun i i' hne g hi hi' => by
            unfold updG at hi hi'
            split at hi
            · split at hi'
              · rename_i e1 e2; exact hne (e1.trans e2.symm)
              · have := (r4 g hi).1; have := hGl i' g hi'; omega
            · split at hi'
              · have := (r4 g hi').1; have := hGl i g hi; omega
              · exact hG i i' hne g hi hi'
          refine again _ w' (upd F j (s.R v)) (updG G j (s.born v)) hlen hn inv' left' (hF0' _ _) (fun k => ?_) hGnew hDnew (hst.2 v r1) (hC w w' hw r3) (fun k => ?_)
          · unfold upd; split
            · exact (hS j s hs).2 v
            · exact hFs k
          · unfold upd; split
            · exact r2
            · exact hFs k w w' (hF k) r3
      · rename_i hwt
        rw [if_neg hwt] at hst
        exact again _ w F G hlen hn inv' left' hF1 hFs hGl hG hst hw hF

def idx : Nat → List Oper → List (Nat × Oper)
  | _, [] => []
  | k, o :: l => (k, o) :: idx (k + 1) l
theorem idx_mem : ∀ (l : List Oper) (k : Nat) (x : Nat × Oper), x ∈ idx k l ↔ k ≤ x.1 ∧ l[x.1 - k]? = some x.2
  | [], k, x => by simp [idx]
  | o :: l, k, x => by
    simp only [idx, List.mem_cons, idx_mem l (k + 1) x]
    constructor
    · rintro (rfl | ⟨h1, h2⟩)
      · simp
      · exact ⟨by omega, by rw [show x.1 - k = (x.1 - (k + 1)) + 1 by omega]; simpa using h2⟩
    · rintro ⟨h1, h2⟩
      by_cases e : x.1 = k
      · left
        rw [e, Nat.sub_self] at h2
        simp at h2
        exact Prod.ext e h2.symm
      · right
        refine ⟨by omega, ?_⟩
        rw [show x.1 - k = (x.1 - (k + 1)) + 1 by omega] at h2
        simpa using h2
theorem idx_sorted : ∀ (l : List Oper) (k : Nat), (idx k l).Pairwise fun x y => x.1 < y.1
  | [], _ => List.Pairwise.nil
  | o :: l, k => by
    refine List.pairwise_cons.2 ⟨fun y hy => ?_, idx_sorted l (k + 1)⟩
    have := ((idx_mem l (k + 1) y).1 hy).1
    simp
    omega
theorem idx_length : ∀ (l : List Oper) (k : Nat), (idx k l).length = l.length
  | [], _ => rfl
  | o :: l, k => by simp [idx, idx_length l (k + 1)]
/-- What was taken ahead: none of the head; it waits for nothing that was not; all that is left behind the head waits for all of the head. -/
def iniB (md : Region.Mode) (ops : Array Oper) (n f0 : Nat) (ini : Array Bool) : Bool :=
  decide (ini.size = ops.size) && decide (n ≤ ops.size) && ((List.range n).all fun i => !ini.getD i true) &&
  (List.range ops.size).all fun t => match ops[t]? with
    | some o => (!ini.getD t false || o.after.all fun e => !Region.binds md e || ini.getD e.on false) && (decide (t < n) || ini.getD t true || (List.range n).all fun i => ancB md ops f0 t i)
    | none => false
theorem iniB_spec {n f0 : Nat} {ini : Array Bool} (h : iniB md ops n f0 ini = true) : n ≤ ops.size ∧ HInv md ops n ini ini ∧ (∀ i, i < n → ini.getD i true = false) ∧
    (∀ listed, HInv md ops n ini listed → (∃ i, i < n ∧ listed.getD i true = false) → ∀ t ∈ Region.ready md ops listed, t < n) := by
  simp only [iniB, Bool.and_eq_true, decide_eq_true_eq] at h
  obtain ⟨⟨⟨h1, h2⟩, h3⟩, h4⟩ := h
  have h5 : ∀ t o, ops[t]? = some o → ((!ini.getD t false || o.after.all fun e => !Region.binds md e || ini.getD e.on false) = true) ∧ ((decide (t < n) || ini.getD t true || (List.range n).all fun i => ancB md ops f0 t i) = true) := fun t o ho => by
    have := List.all_eq_true.1 h4 t (List.mem_range.2 (Array.getElem?_eq_some_iff.1 ho).1)
    simp only [ho, Bool.and_eq_true] at this
    exact this
  refine ⟨h2, ⟨h1, fun j oj hj hl e he hb => ?_, fun _ _ _ => rfl⟩, fun i hi => ?_, fun listed inv ⟨i, hi, hun⟩ t ht => ?_⟩
  · have := (h5 j oj hj).1
    rw [hl] at this
    simp only [Bool.not_true, Bool.false_or] at this
    have := Array.all_eq_true_iff_forall_mem.1 this e he
    simpa [hb] using this
  · have := List.all_eq_true.1 h3 i (List.mem_range.2 hi)
    simpa using this
  · obtain ⟨htun, o, ho, hall⟩ := mem_ready.1 ht
    rcases Nat.lt_or_ge t n with h | h
    · exact h
    · exfalso
      have htl := (Array.getElem?_eq_some_iff.1 ho).1
      have := (h5 t o ho).2
      rw [← inv.tail t h htl, htun] at this
      simp only [Nat.not_lt.2 h, decide_false, Bool.false_or] at this
      have := List.all_eq_true.1 this i (List.mem_range.2 hi)
      have := ancB_listed inv f0 t i this fun o' ho' e he hb => by
        have eo := Option.some.inj (ho'.symm.trans ho)
        rw [eo] at he
        exact hall e he hb
      rw [getD_both hun] at this
      cases this

/-- The head's operations have all come up. -/
def ends (n : Nat) (ini : Array Bool) : Array Bool := (List.replicate n true ++ ini.toList.drop n).toArray
theorem left_ini (l : List Oper) (n : Nat) (ini : Array Bool) (h : ∀ i, i < n → ini.getD i true = false) (hn : n ≤ l.length) : Left l.toArray n ini (idx 0 (l.take n)) := by
  refine ⟨fun x hx => ?_, fun i hi _ => ?_, idx_sorted _ _⟩
  · obtain ⟨_, h'⟩ := (idx_mem _ _ _).1 hx
    rw [Nat.sub_zero, List.getElem?_take] at h'
    split at h'
    · rename_i hlt
      exact ⟨by simpa using h', hlt, h _ hlt⟩
    · cases h'
  · exact ⟨l[i], (idx_mem _ _ _).2 ⟨Nat.zero_le _, by simp [hi]⟩⟩

/-- THE HEAD by one walk; what is left is a goal of its own. -/
theorem wpAny_free (C : World → Prop) (S : Nat → Option FreeSpec) (n g : Nat) (ini : Array Bool) {Q : Act → World → Prop} {Q' : Exit → Act → World → Prop} {a : Act} {w : World} {l : List Oper} (hI : iniB .any l.toArray n 12 ini = true) (hB : headB .any l.toArray n = true)
    (hS : ∀ k s, S k = some s → (∃ v, s.rho v) ∧ ∀ v, Stays (s.R v)) (hCs : Stays C) (hC : C w)
    (hdone : ∀ a w, Q a w → wpAny P .any l.toArray Q' g (ends n ini) a w)
    (h : Walk P l.toArray C S (ancB .any l.toArray 12) Q (idx 0 (l.take n)) a (fun _ _ => True) (fun _ => none)) : wpAny P .any l.toArray Q' (n + g) ini a w := by
  obtain ⟨hn, inv0, h0, hwait⟩ := iniB_spec hI
  have hnl : n ≤ l.length := by simpa using hn
  have hlt : (idx 0 (l.take n)).length = n := by rw [idx_length, List.length_take]; omega
  refine wpAny_of_walk (md := .any) (Q' := Q') (g := g) hB (fun _ _ h => h) hwait hS hCs (fun listed a w inv hall hq' => ?_) n (idx 0 (l.take n)) ini a w (fun _ _ => True) (fun _ => none) hlt hn inv0 (left_ini l n ini h0 hnl) (fun _ _ => ⟨rfl, fun _ => trivial⟩) (fun _ _ _ _ _ => trivial) (fun _ _ h => by cases h) (fun _ _ _ _ h => by cases h) h hC (fun _ => trivial)
  have e : listed = ends n ini := by
    have hs := inv.size
    have hs0 := inv0.size
    unfold ends
    apply Array.ext
    · rw [hs]; simp; simp at hs0; omega
    · intro i h1 h2
      have hi : i < l.length := by rw [hs] at h1; simpa using h1
      rcases Nat.lt_or_ge i n with hin | hin
      · have := hall i hin
        simp [h1] at this
        rw [this]
        simp [hin]
      · have := inv.tail i hin (by simpa using hi)
        have h3 : i < ini.size := by rw [hs0]; simpa using hi
        simp [h1, h3] at this
        rw [this]
        simp only [List.getElem_toArray]
        rw [List.getElem_append_right (by simpa using hin)]
        simp
        congr 1
        omega
  rw [e]
  exact hdone a w hq'

/-- What is left comes up in one order. -/
def orderB (md : Region.Mode) (ops : Array Oper) : List Nat → Array Bool → Bool
  | [], listed => (Region.ready md ops listed).isEmpty
  | k :: ks, listed => decide (Region.ready md ops listed = [k]) && orderB md ops ks (listed.setIfInBounds k true)
theorem wpAny_of_order {Q' : Exit → Act → World → Prop} : ∀ (ks : List Nat) (os : List Oper) (listed : Array Bool) (a : Act) (w : World), ks.map (fun k => ops[k]?) = os.map some → orderB md ops ks listed = true → wpList P ops Q' os a w → wpAny P md ops Q' ks.length listed a w
  | [], [], _, _, _, _, hB, h => ⟨by simpa [orderB] using hB, h⟩
  | [], o :: os, _, _, _, e, _, _ => by simp at e
  | k :: ks, [], _, _, _, e, _, _ => by simp at e
  | k :: ks, o :: os, listed, a, w, e, hB, h => by
    simp only [List.map_cons, List.cons.injEq] at e
    simp only [orderB, Bool.and_eq_true, decide_eq_true_eq] at hB
    refine ⟨fun h1 => (by rw [hB.1] at h1; cases h1), fun i hi => ?_⟩
    rw [hB.1] at hi
    have hik : i = k := by simpa using hi
    subst hik
    have hw : wpOp P ops Q' i (wpList P ops Q' os) a w := by unfold wpOp; simp only [e.1]; exact h
    exact wpOp_mono (fun a' w' h' => wpAny_of_order ks os _ a' w' e.2 hB.2 h') hw

/-- The walk, behind a structure: nothing unfolds it by accident. -/
structure WalkS (P : Program) (ops : Array Oper) (C : World → Prop) (S : Nat → Option FreeSpec) (A : Nat → Nat → Bool) (Q : Act → World → Prop) (l : List (Nat × Oper)) (a : Act) (F : Facts) (G : Borns) : Prop where
  out : Walk P ops C S A Q l a F G
/-- THE REGION, all of it by one walk. -/
theorem region_free (C : World → Prop) (S : Nat → Option FreeSpec) {id : Nat} {Q' : Exit → Act → World → Prop} {a : Act} {w : World} {l : List Oper} (hm : P.follows .mixedOrders = true) (hI : iniB .any l.toArray l.length 12 (Array.replicate l.toArray.size false) = true) (hB : headB .any l.toArray l.length = true)
    (hr : (Region.ready .any l.toArray (ends l.length (Array.replicate l.toArray.size false))).isEmpty = true)
    (hS : ∀ k s, S k = some s → (∃ v, s.rho v) ∧ ∀ v, Stays (s.R v)) (hCs : Stays C) (hC : C w.drew)
    (h : WalkS P l.toArray C S (ancB .any l.toArray 12) (fun a' w' => Q' .normal a' w') (idx 0 l) a (fun _ _ => True) (fun _ => none)) : (Code.region id l.toArray true).wp P Q' a w := by
  refine wp_region_any hm ?_
  have := wpAny_free (P := P) C S l.length 0 (Array.replicate l.toArray.size false) (Q := fun a' w' => Q' .normal a' w') (Q' := Q') (a := a) (w := w.drew) hI hB hS hCs hC (fun a w hq => ⟨by simpa using hr, hq⟩) (by rw [List.take_length]; exact h.out)
  simpa using this

/-- .. its head by one walk, its tail in the order of the text. -/
theorem region_free_tail (C : World → Prop) (S : Nat → Option FreeSpec) (n : Nat) (ks : List Nat) {id : Nat} {Q' : Exit → Act → World → Prop} {a : Act} {w : World} {l : List Oper} (hm : P.follows .mixedOrders = true) (hI : iniB .any l.toArray n 12 (Array.replicate l.toArray.size false) = true) (hB : headB .any l.toArray n = true)
    (hk : n + ks.length = l.toArray.size) (hq : orderB .any l.toArray ks (ends n (Array.replicate l.toArray.size false)) = true) (he : ks.map (fun k => l.toArray[k]?) = (l.drop n).map some)
    (hS : ∀ k s, S k = some s → (∃ v, s.rho v) ∧ ∀ v, Stays (s.R v)) (hCs : Stays C) (hC : C w.drew)
    (h : WalkS P l.toArray C S (ancB .any l.toArray 12) (fun a' w' => wpList P l.toArray Q' (l.drop n) a' w') (idx 0 (l.take n)) a (fun _ _ => True) (fun _ => none)) : (Code.region id l.toArray true).wp P Q' a w := by
  refine wp_region_any hm ?_
  have := wpAny_free (P := P) C S n ks.length (Array.replicate l.toArray.size false) (Q' := Q') (a := a) (w := w.drew) (Q := fun a' w' => wpList P l.toArray Q' (l.drop n) a' w') hI hB hS hCs hC (fun a w h => wpAny_of_order ks _ _ a w he hq h) h.out
  rw [hk] at this
  exact this

/-- The operations of these numbers. -/
def picks (l : List Oper) (ks : List Nat) : List Oper := ks.filterMap fun k => l[k]?
theorem picks_map (l : List Oper) : ∀ ks : List Nat, (ks.all fun k => decide (k < l.length)) = true → ks.map (fun k => l.toArray[k]?) = (picks l ks).map some
  | [], _ => rfl
  | k :: ks, h => by
    simp only [List.all_cons, Bool.and_eq_true, decide_eq_true_eq] at h
    have e : l[k]? = some l[k] := List.getElem?_eq_getElem h.1
    simp [picks, e]
    simpa [picks] using picks_map l ks h.2

/-- THE REGION: one operation taken ahead (it yields its value whatever the world), the head by one walk, what is left in its order. -/
theorem region_free_took (i : Nat) (v : Value) (C : World → Prop) (S : Nat → Option FreeSpec) (n : Nat) (ks : List Nat) {id : Nat} {Q' : Exit → Act → World → Prop} {a : Act} {w : World} {l : List Oper} {oi : Oper} (hm : P.follows .mixedOrders = true)
    (hi : l[i]? = some oi) (hf : Region.free .any l.toArray (Array.replicate l.toArray.size false) i = true) (hr : (Region.ready .any l.toArray (Array.replicate l.toArray.size false)).contains i = true) (hsel : Region.noSelect l.toArray = true)
    (hQ : ∀ c a w, Q' (.panic c) (a.put oi.dst v) w → Q' (.panic c) a w) (hw : Region.wanted oi (yielded l.toArray a.tmps) = true) (hy : ∀ w, gives P oi a w v)
    (hI : iniB .any l.toArray n 12 ((Array.replicate l.toArray.size false).setIfInBounds i true) = true) (hB : headB .any l.toArray n = true)
    (hk : n + ks.length + 1 = l.toArray.size) (hq : orderB .any l.toArray ks (ends n ((Array.replicate l.toArray.size false).setIfInBounds i true)) = true) (he : (ks.all fun k => decide (k < l.length)) = true)
    (hS : ∀ k s, S k = some s → (∃ v, s.rho v) ∧ ∀ v, Stays (s.R v)) (hCs : Stays C) (hC : C w.drew)
    (h : WalkS P l.toArray C S (ancB .any l.toArray 12) (fun a' w' => wpList P l.toArray Q' (picks l ks) a' w') (idx 0 (l.take n)) (a.put oi.dst v) (fun _ _ => True) (fun _ => none)) : (Code.region id l.toArray true).wp P Q' a w := by
  refine wp_region_any hm ?_
  have hi' : l.toArray[i]? = some oi := by simpa using hi
  have := wpAny_take (md := .any) (Q := Q') (fuel := n + ks.length) (w := w.drew) hi' hsel hf hr hQ (Or.inl ⟨hw, hy⟩)
    (wpAny_free (P := P) C S n ks.length _ (Q := fun a' w' => wpList P l.toArray Q' (picks l ks) a' w') hI hB hS hCs hC (fun a w h => wpAny_of_order ks _ _ a w (picks_map l ks he) hq h) h.out)
  rw [hk] at this
  exact this

theorem w_end {a : Act} {F : Facts} {G : Borns} (h : ∀ w, C w → (∀ k, F k w) → (∀ i j, i ≠ j → Differ G i j) → Q a w) : WalkS P ops C S A Q [] a F G := ⟨h⟩
theorem w_skip {k : Nat} {o : Oper} {l : List (Nat × Oper)} {a : Act} {F : Facts} {G : Borns} (hw : Region.wanted o (yielded ops a.tmps) = false) (h : WalkS P ops C S A Q l (a.put o.dst undef) F G) : WalkS P ops C S A Q ((k, o) :: l) a F G := by
  refine ⟨?_⟩
  unfold Walk
  rw [if_neg (by rw [hw]; exact Bool.false_ne_true)]
  exact h.out
theorem w_pure {k : Nat} {o : Oper} {l : List (Nat × Oper)} {a : Act} {F : Facts} {G : Borns} (hw : Region.wanted o (yielded ops a.tmps) = true) (hs : S k = none)
    (h : ∃ v, (∀ w, C w → (∀ i, A k i = true → F i w) → gives P o a w v) ∧ WalkS P ops C S A Q l (a.put o.dst v) F G) : WalkS P ops C S A Q ((k, o) :: l) a F G := by
  refine ⟨?_⟩
  unfold Walk
  rw [if_pos hw]
  simp only [hs]
  exact h.imp fun _ h => ⟨h.1, h.2.out⟩
theorem w_free {k : Nat} {s : FreeSpec} {o : Oper} {l : List (Nat × Oper)} {a : Act} {F : Facts} {G : Borns} (hw : Region.wanted o (yielded ops a.tmps) = true) (hs : S k = some s)
    (h1 : ∀ w, C w → (∀ i, A k i = true → F i w) → (∀ i j, A k i = true → A k j = true → i ≠ j → Differ G i j) → does P o a w (s.post w))
    (h2 : ∀ v, s.rho v → WalkS P ops C S A Q l (a.put o.dst v) (upd F k (s.R v)) (updG G k (s.born v))) : WalkS P ops C S A Q ((k, o) :: l) a F G := by
  refine ⟨?_⟩
  unfold Walk
  rw [if_pos hw]
  simp only [hs]
  exact ⟨h1, fun v hv => (h2 v hv).out⟩
end
end Go.Proofs.YtnmnbefbadhkgaaDoor
