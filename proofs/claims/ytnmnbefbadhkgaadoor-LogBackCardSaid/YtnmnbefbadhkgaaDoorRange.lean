/-
  A RANGE OVER A FUNCTION, whose iterator may keep state of its own in cells, and hand on values that lead into memory: the iterator's contract (Seq), and the law for the loop (wp_range), at the wide fence.
-/
import Derived.Test.YtnmnbefbadhkgaaDoorMem
import Derived.RangeFuncNested
import Derived.RangeFuncBound
import Derived.RangeFuncCalls
import Derived.RangeFuncLeaves
import Derived.OwnWalkIn
import Derived.TacticsInMore
import Derived.LoopNIn
import Derived.LoopIn
namespace Go.Proofs.YtnmnbefbadhkgaaDoor
open Go Go.RowKit

section
variable {P : Program}

/-- A step of the loop's book-keeping: new blocks, and one block at or beyond B turned that is no cells. -/
def Turn (B : Nat) (A A' : World) : Prop := ∃ row, A.grownBy A' row ∧ ∀ r, row = some r → B ≤ r ∧ ∃ o : Obj, A.heap[r]? = some o ∧ o.isCells = false
theorem Turn.alloc (B : Nat) (A : World) (o : Obj) : Turn B A (A.alloc o) := ⟨none, World.grownBy_alloc A o none, fun r e => by cases e⟩
theorem Turn.put {B l : Nat} {A : World} {o : Obj} (o' : Obj) (hB : B ≤ l) (hl : A.heap[l]? = some o) (ho : o.isCells = false) : Turn B A (A.putObj l o') :=
  ⟨some l, grownBy_putObj' A l o', fun r e => by cases e; exact ⟨hB, o, hl, ho⟩⟩
theorem Turn.below {B n : Nat} {A A' : World} (h : Turn B A A') (hn : n ≤ B) (hs : n ≤ A.heap.size) : Below n A A' := by
  obtain ⟨row, hg, hr⟩ := h
  exact ⟨hg.os, hg.tape, hg.output, hg.size, fun k hk => hg.block k (by omega) (fun e => by have := (hr k e.symm).1; omega)⟩
theorem Turn.blk {B g : Nat} {A A' : World} {t : TypeId} {cs : Array Value} (h : Turn B A A') (hb : Blk A g t cs) : Blk A' g t cs := by
  obtain ⟨row, hg, hr⟩ := h
  refine (hg.block g hb.lt (fun e => ?_)).trans hb
  obtain ⟨_, o, ho, hc⟩ := hr g e.symm
  unfold Blk at hb
  rw [hb] at ho
  cases ho
  cases hc
theorem Turn.cells {B : Nat} {A A' : World} (h : Turn B A A') {p : Addr} {v : Value} (hc : A.cell? p = some v) : A'.cell? p = some v := by
  obtain ⟨row, hg, hr⟩ := h
  exact cell_kept hc hg fun r e => (hr r e).2
theorem Turn.reads {B B' size n : Nat} {A A' : World} {a : Option Addr} {xs : List Value} (h : Turn B A A') (hr : Reads A B' size a n xs) : Reads A' B' size a n xs :=
  ⟨hr.1, fun hn => by
    obtain ⟨g, off, e, hb, hc⟩ := hr.2 hn
    exact ⟨g, off, e, hb, fun j u hu => h.cells (hc j u hu)⟩⟩
theorem Turn.owns {B base : Nat} {e : TypeId} {size n cap : Nat} {A A' : World} {a : Option Addr} {xs : List Value} (h : Turn B A A') (ho : Owns A base e size a n cap xs) : Owns A' base e size a n cap xs := by
  refine ⟨ho.1, ho.2.1, ho.2.2.1, ho.2.2.2.1, fun ad ha => ?_⟩
  obtain ⟨g, off, rfl, hb, cur, hc, hs, hx⟩ := ho.2.2.2.2 ad ha
  exact ⟨g, off, rfl, hb, cur, h.blk (show Blk A g e cur from hc), hs, hx⟩
theorem KeepsFrom.of_below {B n : Nat} {A A' : World} (h : Below n A A') (hn : A.heap.size ≤ n) : KeepsFrom B A A' :=
  ⟨h.size, fun k _ _ hk _ => (h.block k (by have := (Array.getElem?_eq_some_iff.1 hk).1; omega)).trans hk⟩
theorem KeepsFrom.of_grown {B : Nat} {A A' : World} {row : Option Nat} (h : A.grownBy A' row) (hr : ∀ g, row = some g → ∃ t cs, Blk A g t cs) : KeepsFrom B A A' :=
  ⟨h.size, fun k o _ hk ho => (h.block k (Array.getElem?_eq_some_iff.1 hk).1 (fun e => by
    obtain ⟨t, cs, hb⟩ := hr k e.symm
    unfold Blk at hb
    rw [hb] at hk
    cases hk
    cases ho)).trans hk⟩
theorem KeepsFrom.drewN {B : Nat} {A : World} (n : Nat) : KeepsFrom B A (A.drewN n) := ⟨Nat.le_refl _, fun _ _ _ h _ => h⟩

/-- THE ITERATOR's CONTRACT: K rounds; the k-th hands on args with G k args; between them it takes steps St; a round that goes on keeps Kp. -/
def Seq (P : Program) (g : Nat) (lb : Array Value) (St Kp : World → World → Prop) (G : Nat → Array Value → World → Prop) (K : Nat) (Init : World → Prop) : Prop :=
  ∀ (l : Nat) (J : Nat → World → Prop) (Jx : World → Prop) (W : World), (∀ k A B, J k A → St A B → J k B) → (∀ A B, Jx A → St A B → Jx B) →
    (∀ k args W1, k < K → J k W1 → G k args W1 → YieldAt Fence.wide 7 P l args W1 fun e W' => (e = .returned (.bool true) ∧ J (k + 1) W' ∧ Kp W1 W') ∨ (e = .returned (.bool false) ∧ Jx W')) →
    J 0 W → Init W → CallsIn Fence.wide 8 P g (#[.func (.yield l) #[] #[]] ++ lb) W fun e W' => (∃ v, e = .returned v) ∧ (J K W' ∨ Jx W')

/-- HOW A ROUND's BODY MAY BE LEFT. -/
def rangePost' (B : Nat) (Kp : World → World → Prop) (I : World → Prop) (Ix : Code → World → Prop) (W : World) : Exit → Act → World → Prop
  | .normal, _, W' => KeepsFrom B W W' ∧ Kp W W' ∧ I W'
  | .ret, _, W' => KeepsFrom B W W' ∧ Ix .ret W'
  | .exit id, _, W' => KeepsFrom B W W' ∧ Ix (.exit id) W'
  | .goto t, _, W' => KeepsFrom B W W' ∧ Ix (.goto t) W'
  | .panic _, _, _ => False
  | .outgrown, _, _ => False

theorem wp_range {g : Operand} {ps : Array Tmp} {assign body : Code} {Q : Exit → Act → World → Prop} {a : Act} {w : World} {gf : Nat} {lb : Array Value}
    (hg : a.eval g = .func (.func gf) #[] lb) (eg : ∀ args w, (callFunc gf args).run P w = .ok (.enter gf args) w)
    {St Kp : World → World → Prop} {G : Nat → Array Value → World → Prop} {K : Nat} {Init : World → Prop} (hseq : Seq P gf lb St Kp G K Init)
    (hSt : ∀ A B, St A B → KeepsFrom w.heap.size A B) (hKt : ∀ A B C, Kp A B → Kp B C → Kp A C) (hKb : ∀ A B, Turn w.heap.size A B → Kp A B) (hps : ∀ k args W, G k args W → args.size = ps.size)
    (I : Nat → World → Prop) (Ix : Code → World → Prop) (hI : ∀ k A B, I k A → St A B → I k B) (hIx : ∀ c A B, Ix c A → St A B → Ix c B)
    (hIt : ∀ k A B, I k A → Turn w.heap.size A B → I k B) (hIxt : ∀ c A B, Ix c A → Turn w.heap.size A B → Ix c B)
    (h0 : I 0 w) (hinit : ∀ o o', Init ((w.alloc o).alloc o'))
    (hround : ∀ (l k : Nat) (args : Array Value) (W : World), k < K → I k W → G k args W → w.heap.size < W.heap.size →
      assign.wpIn (Fence.wide.inRound l) 7 P (Exit.then (fun a1 W1 => KeepsFrom w.heap.size W W1 ∧ Kp W W1 ∧ ∀ W2, Turn w.heap.size W1 W2 → body.wpIn (Fence.wide.inRound l) 7 P (rangePost' w.heap.size Kp (I (k + 1)) Ix W2) a1 W2) (fun _ _ _ => False))
        { tmps := (ps.zip args).foldl (fun t (p, v) => t.setIfInBounds p v) a.tmps, defers := [] } W)
    (hdone : ∀ (D : Nat) (W : World), w.heap.size ≤ D → I K W → W.heap[D]? = some (.deferred (some [])) → Q .normal { a with defers := { target := .collected D, args := #[] } :: a.defers } W)
    (hstop : ∀ (D : Nat) (c : Code) (W : World), w.heap.size ≤ D → Ix c W → W.heap[D]? = some (.deferred (some [])) → c.wpIn Fence.wide 9 P Q { a with defers := { target := .collected D, args := #[] } :: a.defers } W) :
    (Code.rangeFunc g ps assign body).wpIn Fence.wide 9 P Q a w := by
  refine wpIn_rangeFunc ?_
  intro fn hfn
  rw [show Fence.wide.round = none from rfl]
  obtain ⟨rec, hrec⟩ : ∃ rec : LoopState → Option Code → Loop, rec = fun st pe => { state := st, pending := pe, fn, tmps := a.tmps, params := ps, assign, body, defers := w.heap.size } := ⟨_, rfl⟩
  obtain ⟨W1, hW1⟩ : ∃ W1, (w.alloc (.deferred (some []))).alloc (.loop (rec .ready none)) = W1 := ⟨_, rfl⟩
  have hL1 : W1.heap[w.heap.size + 1]? = some (.loop (rec .ready none)) := by
    rw [← hW1]; have := World.alloc_heap_new (w.alloc (.deferred (some []))) (.loop (rec .ready none)); rwa [World.size_alloc] at this
  have hK1 : W1.heap[w.heap.size]? = some (.deferred (some [])) := by
    rw [← hW1]; exact (Below.heap_alloc _ _ _ (by simp)).trans (World.alloc_heap_new w _)
  have hI1 : I 0 W1 := by rw [← hW1]; exact hIt _ _ _ (hIt _ _ _ h0 (Turn.alloc _ _ _)) (Turn.alloc _ _ _)
  have hInit : Init W1 := by rw [← hW1]; exact hinit _ _
  refine ⟨w.heap.size + 1, [{ target := .collected w.heap.size, args := #[] }], W1, { target := .fn (.func gf) lb, args := #[.func (.yield (w.heap.size + 1)) #[] #[]] }, W1, gf,
    #[.func (.yield (w.heap.size + 1)) #[] #[]] ++ lb, W1, ?_, ?_, ?_, ?_, fun _ => (by omega), ?_⟩
  · rw [← hW1, hrec]; exact run_enterLoop_outer _ _ _ _ _
  · simp only [resolve, hg]
    simp [go_sem]
  · intro f' hf'; exact trivial
  · simp [invoke, go_sem, eg]
  · refine (hseq (w.heap.size + 1)
      (fun k W => I k W ∧ W.heap[w.heap.size + 1]? = some (.loop (rec .ready none)) ∧ W.heap[w.heap.size]? = some (.deferred (some [])))
      (fun W => ∃ c, Ix c W ∧ W.heap[w.heap.size + 1]? = some (.loop (rec .done (some c))) ∧ W.heap[w.heap.size]? = some (.deferred (some [])))
      W1
      (fun k A B hs hst => ⟨hI k A B hs.1 hst, (hSt A B hst).same _ _ (by omega) hs.2.1 rfl, (hSt A B hst).same _ _ (Nat.le_refl _) hs.2.2 rfl⟩)
      (fun A B hs hst => by
        obtain ⟨c, hc, hl, hk⟩ := hs
        exact ⟨c, hIx c A B hc hst, (hSt A B hst).same _ _ (by omega) hl rfl, (hSt A B hst).same _ _ (Nat.le_refl _) hk rfl⟩)
      ?_ ⟨hI1, hL1, hK1⟩ hInit).mono ?_
    · rintro k args W hkK ⟨hi, hl, hk⟩ hG
      have hlt : w.heap.size + 1 < W.heap.size := (Array.getElem?_eq_some_iff.1 hl).1
      have hy := run_yield (P := P) (args := args) hl (by rw [hrec]; exact hps k args W hG)
      rw [hrec] at hy
      refine ⟨fn, _, assign, body, hy, roundIn_of_wpIn hfn (wpIn_mono (hround (w.heap.size + 1) k args W hkK hi hG (by omega)) ?_)⟩
      rintro e a1 Wa hp
      cases e with
      | normal =>
        obtain ⟨hka, hkpa, hbody⟩ := hp
        have hl' := hka.same _ _ (by omega) hl rfl
        have hk' := hka.same _ _ (Nat.le_refl _) hk rfl
        have hlta : w.heap.size + 1 < Wa.heap.size := (Array.getElem?_eq_some_iff.1 hl').1
        refine ⟨_, run_beginRound hl' (by rw [hrec]), ?_⟩
        have ht : Turn w.heap.size Wa (Wa.putObj (w.heap.size + 1) (.loop { rec .ready none with state := .busy })) := Turn.put _ (by omega) hl' rfl
        have hl2 : (Wa.putObj (w.heap.size + 1) (.loop { rec .ready none with state := .busy })).heap[w.heap.size + 1]? = some (.loop { rec .ready none with state := .busy }) := World.putObj_heap_same hlta
        have hk2 : (Wa.putObj (w.heap.size + 1) (.loop { rec .ready none with state := .busy })).heap[w.heap.size]? = some (.deferred (some [])) := (World.putObj_heap_other (by omega)).trans hk'
        refine wpIn_mono (hbody _ ht) ?_
        have fin : ∀ (jump : Option Code) (W3 : World), KeepsFrom w.heap.size (Wa.putObj (w.heap.size + 1) (.loop { rec .ready none with state := .busy })) W3 →
            (Instr.endRound (w.heap.size + 1) jump).run P W3 = .ok (.bool jump.isNone) (W3.putObj (w.heap.size + 1) (.loop (rec (if jump.isNone then .ready else .done) jump))) ∧
            W3.heap[w.heap.size + 1]? = some (.loop { rec .ready none with state := .busy }) ∧
            (W3.putObj (w.heap.size + 1) (.loop (rec (if jump.isNone then .ready else .done) jump))).heap[w.heap.size + 1]? = some (.loop (rec (if jump.isNone then .ready else .done) jump)) ∧
            (W3.putObj (w.heap.size + 1) (.loop (rec (if jump.isNone then .ready else .done) jump))).heap[w.heap.size]? = some (.deferred (some [])) := fun jump W3 hk3 => by
          have hl3 := hk3.same _ _ (by omega) hl2 rfl
          have := run_endRound (P := P) jump hl3
          rw [hrec] at this ⊢
          exact ⟨this, by rw [hrec] at hl3; exact hl3, World.putObj_heap_same (Array.getElem?_eq_some_iff.1 hl3).1, (World.putObj_heap_other (by omega)).trans (hk3.same _ _ (Nat.le_refl _) hk2 rfl)⟩
        rintro e a3 W3 hp
        cases e with
        | normal =>
          obtain ⟨hk3, hkp3, hi3⟩ := hp
          obtain ⟨hr, hl3, hl4, hk4⟩ := fin none W3 hk3
          exact ⟨_, _, hr, .inl ⟨rfl, ⟨hIt _ _ _ hi3 (Turn.put _ (by omega) hl3 rfl), hl4, hk4⟩, hKt _ _ _ (hKt _ _ _ (hKt _ _ _ hkpa (hKb _ _ ht)) hkp3) (hKb _ _ (Turn.put _ (by omega) hl3 rfl))⟩⟩
        | ret =>
          obtain ⟨hk3, hi3⟩ := hp
          obtain ⟨hr, hl3, hl4, hk4⟩ := fin (some .ret) W3 hk3
          exact ⟨_, _, hr, .inr ⟨rfl, .ret, hIxt _ _ _ hi3 (Turn.put _ (by omega) hl3 rfl), hl4, hk4⟩⟩
        | exit id =>
          obtain ⟨hk3, hi3⟩ := hp
          obtain ⟨hr, hl3, hl4, hk4⟩ := fin (some (.exit id)) W3 hk3
          exact ⟨_, _, hr, .inr ⟨rfl, .exit id, hIxt _ _ _ hi3 (Turn.put _ (by omega) hl3 rfl), hl4, hk4⟩⟩
        | goto t =>
          obtain ⟨hk3, hi3⟩ := hp
          obtain ⟨hr, hl3, hl4, hk4⟩ := fin (some (.goto t)) W3 hk3
          exact ⟨_, _, hr, .inr ⟨rfl, .goto t, hIxt _ _ _ hi3 (Turn.put _ (by omega) hl3 rfl), hl4, hk4⟩⟩
        | panic ch => exact hp.elim
        | outgrown => exact hp.elim
      | ret => exact hp.elim
      | exit id => exact hp.elim
      | goto t => exact hp.elim
      | panic ch => exact hp.elim
      | outgrown => exact hp.elim
    · rintro e W2 ⟨⟨v, rfl⟩, (⟨hi, hl, hk⟩ | ⟨c, hi, hl, hk⟩)⟩
      · exact ⟨none, _, by have := run_endLoop (P := P) hl (by rw [hrec]; simp); rw [hrec] at this; exact this, hdone _ _ (Nat.le_refl _) (hIt _ _ _ hi (Turn.put _ (by omega) hl rfl)) ((World.putObj_heap_other (by omega)).trans hk)⟩
      · exact ⟨some c, _, by have := run_endLoop (P := P) hl (by rw [hrec]; simp); rw [hrec] at this; exact this, hstop _ c _ (Nat.le_refl _) (hIxt _ _ _ hi (Turn.put _ (by omega) hl rfl)) ((World.putObj_heap_other (by omega)).trans hk)⟩

/-- append within the fence. -/
theorem wpListIn_app {F : Fence} {k : Nat} {ops : Array Oper} {rest : List Oper} {o : Oper} {a : Act} {Q : Exit → Act → World → Prop} (w : World) (hgd : o.guard = none) (s x : Operand) (t tx : TypeId)
    (ho : o.op = .call { callee := .builtin .append, args := #[s, x], argTypes := #[t, tx] })
    (e : TypeId) (z : Value) (size bytes : Nat) (ht : P.underlying t = some (.slice e)) (hi : (P.info? e).map (fun i => (i.zero, i.size, i.bytes)) = some (some z, size, bytes)) (hzs : z.cells.size = size)
    (base : Nat) (A : Option Addr) (n cap : Nat) (xs : List Value) (hsv : a.eval s = .slice A n cap) (hown : Owns w base e size A n cap xs)
    (xv : Value) (m : Nat) (news : List Value) (hxv : a.eval x = xv) (hs : Src P size tx xv m news w)
    (hbytes : (n + m) * bytes ≤ 140737488355328) (h63 : n + m ≤ 9223372036854775807) (hbase : base ≤ w.heap.size)
    (h : ∀ A' cap' w', Owns w' base e size A' (n + m) cap' (xs ++ news) → w.grownBy w' (blockOf A) → (A' = A ∨ blockOf A' = some w.heap.size) → (0 < m → A' ≠ none) → wpListIn F k P ops Q rest (a.put o.dst (.slice A' (n + m) cap')) w') : wpListIn F k P ops Q (o :: rest) a w := by
  refine wpListIn_plain hgd fun K hK' => ?_
  obtain ⟨i, hi0, hz0, rfl, rfl⟩ := info_parts hi
  obtain ⟨A', cap', w', hr, h2, h3, h4, h5⟩ := run_app (P := P) w t tx o.type e i z ht hi0 hz0 hzs base A n cap xs hown xv m news hs hbytes h63 hbase
  unfold Oper.wpIn
  refine ⟨?_, ?_⟩
  · simp [Oper.about, ho, resolve, Target.leads, Sem.run_pure]
  · rw [Oper.semAt_plain F _ _ (by rw [ho]; intro c hc'; cases hc')]
    simp only [execOp, ho, resolve, invoke, builtin, Sem.run_bind, Sem.run_pure, Result.andThen_ok, List.map_toArray, List.map_cons, List.map_nil, hsv, hxv, hr]
    exact hK' _ _ (h A' cap' w' h2 h3 h4 h5)
theorem wpListIn_app_new {F : Fence} {k : Nat} {ops : Array Oper} {rest : List Oper} {o : Oper} {a : Act} {Q : Exit → Act → World → Prop} (w : World) (news : List Value) (e' : TypeId) (hgd : o.guard = none) (s x : Operand) (t : TypeId)
    (ho : o.op = .call { callee := .builtin .append, args := #[s, x], argTypes := #[t, t] })
    (e : TypeId) (z : Value) (size bytes : Nat) (ht : P.underlying t = some (.slice e)) (hi : (P.info? e).map (fun i => (i.zero, i.size, i.bytes)) = some (some z, size, bytes)) (hzs : z.cells.size = size)
    (base : Nat) (A : Option Addr) (n cap : Nat) (xs : List Value) (gs m c : Nat) (hsv : a.eval s = .slice A n cap) (hxv : a.eval x = .slice (some ⟨gs, 0, none⟩) m c) (hown : Owns w base e size A n cap xs)
    (hgs : gs = w.heap.size) (hl : news.length = m * size) (h1 : ∀ u ∈ news, u.oneCell' = true)
    (hbytes : (n + m) * bytes ≤ 140737488355328) (h63 : n + m ≤ 9223372036854775807) (hbase : base ≤ w.heap.size)
    (h : ∀ A' cap' w', Owns w' base e size A' (n + m) cap' (xs ++ news) → w.grownBy w' (blockOf A) → (A' = A ∨ ∃ g, blockOf A' = some g ∧ w.heap.size ≤ g) → (0 < m → A' ≠ none) → wpListIn F k P ops Q rest (a.put o.dst (.slice A' (n + m) cap')) w') :
    wpListIn F k P ops Q (o :: rest) a (w.alloc (.cells news.toArray e')) := by
  subst hgs
  have hsrc : Src P size t (.slice (some ⟨w.heap.size, 0, none⟩) m c) m news (w.alloc (.cells news.toArray e')) := by
    refine Src.ofSlice _ ht _ m c news hl (fun j u hu => ?_) h1
    rw [show ((⟨w.heap.size, 0, none⟩ : Addr).add j) = ⟨w.heap.size, j, none⟩ from by unfold Addr.add; split <;> simp_all, cell_of_row _ w.heap.size j news.toArray e' (0, 0) (heap_alloc_new w _)]
    simpa using hu
  refine wpListIn_app _ hgd s x t t ho e z size bytes ht hi hzs base A n cap xs hsv (hown.alloc _) _ m news hxv hsrc hbytes h63 (by simp; omega) fun A' cap' w' g1 g2 g3 g4 => h A' cap' w' g1 ⟨g2.os, g2.tape, g2.output, by have := g2.size; simp at this; omega, fun k hk hne => (g2.block k (by simp; omega) hne).trans (heap_alloc_old w _ hk)⟩ ?_ g4
  rcases g3 with g3 | g3
  · exact .inl g3
  · exact .inr ⟨_, g3, by simp⟩

/-- A function leaves: no loop over a function was entered; or one was. -/
theorem leaveM0 {fn : Func} {R : Ending → World → Prop} {a : Act} {w : World} {v : Value} (hd : a.defers = []) (hr : (results fn a.tmps).run P w = .ok v w) (hR : R (.returned v) w) : bodyPostM Fence.wide 9 P fn R .ret a w := by
  show LeavesInM Fence.wide 9 P fn a.tmps R a.defers .returning w
  rw [hd]
  exact ⟨v, hr, hR⟩
theorem leaveM1 {fn : Func} {R : Ending → World → Prop} {a : Act} {w : World} {D B : Nat} (hd : a.defers = [{ target := .collected D, args := #[] }]) (hB : B ≤ D) (hK : w.heap[D]? = some (.deferred (some [])))
    (h : ∀ w', Turn B w w' → ∃ v, (results fn a.tmps).run P w' = .ok v w' ∧ R (.returned v) w') : bodyPostM Fence.wide 9 P fn R .ret a w := by
  show LeavesInM Fence.wide 9 P fn a.tmps R a.defers .returning w
  rw [hd]
  obtain ⟨v, h1, h2⟩ := h _ (Turn.put (.deferred none) hB hK rfl)
  exact ⟨by simp, .inl ⟨_, _, rfl, run_takeDeferred hK, v, h1, h2⟩⟩
end
end Go.Proofs.YtnmnbefbadhkgaaDoor
