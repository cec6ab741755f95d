/-
  WORDS FOR MEMORY: a slice that reads as a list of cells (nil let in); a slice that the call itself has made, wherever it begins in its block; append onto it, whatever is appended; a cut of it.
-/
import Derived.WalkKit
import Derived.WalkSpells
import Derived.Lib.Hide
import Derived.Deep.AppendSrc
import Derived.Deep.Draws
import Derived.Laws.OwnMore
namespace Go.Proofs.YtnmnbefbadhkgaaDoor
open Go Go.RowKit

/-! ### reading -/

/-- A slice's address and length read as these cells; all of them lie below block B. -/
def Reads (w : World) (B size : Nat) (A : Option Addr) (n : Nat) (xs : List Value) : Prop :=
  xs.length = n * size ∧ (0 < n → ∃ g off, A = some ⟨g, off, none⟩ ∧ g < B ∧ ∀ j u, xs[j]? = some u → w.cell? ⟨g, off + j, none⟩ = some u)

section
variable {w w' : World} {B B' size n : Nat} {A : Option Addr} {xs : List Value}
theorem Reads.none_ : Reads w B size A 0 [] := ⟨by simp, fun h => absurd h (by omega)⟩
theorem Reads.at_ (h : Reads w B size A n xs) (hn : 0 < n) : ∃ g off, A = some ⟨g, off, none⟩ ∧ g < B ∧ ∀ j u, xs[j]? = some u → w.cell? ⟨g, off + j, none⟩ = some u := h.2 hn
theorem Reads.keep (h : Reads w B size A n xs) (hk : ∀ p : Addr, p.block < B → w'.cell? p = w.cell? p) : Reads w' B size A n xs :=
  ⟨h.1, fun hn => by
    obtain ⟨g, off, e, hb, hc⟩ := h.2 hn
    exact ⟨g, off, e, hb, fun j u hu => (hk _ hb).trans (hc j u hu)⟩⟩
theorem Reads.more (h : Reads w B size A n xs) (hB : B ≤ B') : Reads w B' size A n xs :=
  ⟨h.1, fun hn => by
    obtain ⟨g, off, e, hb, hc⟩ := h.2 hn
    exact ⟨g, off, e, by omega, hc⟩⟩
theorem Reads.below (h : Reads w B size A n xs) (hb : Below B w w') : Reads w' B size A n xs := h.keep fun _ hp => hb.cell hp
theorem Reads.drew (h : Reads w B size A n xs) : Reads w.drew B size A n xs := h
theorem Reads.drewN (h : Reads w B size A n xs) (k : Nat) : Reads (w.drewN k) B size A n xs := h
theorem Reads.alloc (h : Reads w B size A n xs) (hB : B ≤ w.heap.size) (o : Obj) : Reads (w.alloc o) B size A n xs := h.keep fun p hp => World.cell?_alloc_lt w o p (by omega)
theorem Reads.setCell (h : Reads w B size A n xs) {p : Addr} (hB : B ≤ p.block) (u : Value) : Reads (w.setCell p u) B size A n xs :=
  h.keep fun q hq => World.cell?_setCell_other w p q u (fun e => by subst e; omega)
theorem Reads.grown (h : Reads w B size A n xs) {row : Option Nat} (hg : w.grownBy w' row) (hB : B ≤ w.heap.size) (hr : ∀ g, row = some g → B ≤ g) : Reads w' B size A n xs :=
  h.keep fun p hp => World.cell?_of_block (hg.block p.block (by omega) (fun e => by have := hr _ e.symm; omega))
end

/-! ### what the call has made itself -/

/-- The slice (its address, length, capacity) is the call's own: it lies in a block from base on; its first cells are xs. -/
def Owns (w : World) (base : Nat) (e : TypeId) (size : Nat) (A : Option Addr) (n cap : Nat) (xs : List Value) : Prop :=
  xs.length = n * size ∧ n ≤ cap ∧ cap ≤ maxLen ∧ (A = none → cap = 0) ∧
  ∀ ad, A = some ad → ∃ g off, ad = ⟨g, off, none⟩ ∧ base ≤ g ∧ ∃ cur, w.heap[g]? = some (.cells cur e (0, 0)) ∧ off + cap * size ≤ cur.size ∧ ∀ j, j < n * size → cur[off + j]? = xs[j]?

/-- the block of an address -/
def blockOf : Option Addr → Option Nat
  | some a => some a.block
  | none => none

section
variable {w w' : World} {base : Nat} {e : TypeId} {size n cap g off : Nat} {A : Option Addr} {xs : List Value}
theorem Owns.nil_ (w : World) (base : Nat) (e : TypeId) (size : Nat) : Owns w base e size none 0 0 [] :=
  ⟨by simp, Nat.le_refl _, Nat.zero_le _, fun _ => rfl, (fun _ h => by cases h)⟩
theorem Owns.lt (h : Owns w base e size A n cap xs) : ∀ k, blockOf A = some k → base ≤ k ∧ k < w.heap.size := by
  intro k hk
  cases A with
  | none => cases hk
  | some ad =>
    obtain ⟨g, off, rfl, hb, cur, hc, _⟩ := h.2.2.2.2 ad rfl
    cases hk
    refine ⟨hb, ?_⟩
    rcases Nat.lt_or_ge g w.heap.size with hlt | hge
    · exact hlt
    · rw [Array.getElem?_eq_none hge] at hc; cases hc
theorem Owns.kept (h : Owns w base e size A n cap xs) (hk : ∀ g, blockOf A = some g → w'.heap[g]? = w.heap[g]?) : Owns w' base e size A n cap xs :=
  ⟨h.1, h.2.1, h.2.2.1, h.2.2.2.1, fun ad ha => by
    obtain ⟨g, off, rfl, hb, cur, hc, hs, hx⟩ := h.2.2.2.2 ad ha
    exact ⟨g, off, rfl, hb, cur, (hk g (by rw [ha]; rfl)).trans hc, hs, hx⟩⟩
theorem Owns.below (h : Owns w base e size A n cap xs) {B : Nat} (hb : Below B w w') (hB : w.heap.size ≤ B) : Owns w' base e size A n cap xs :=
  h.kept fun g hg => hb.block g (by have := (h.lt g hg).2; omega)
theorem Owns.drew (h : Owns w base e size A n cap xs) : Owns w.drew base e size A n cap xs := h
theorem Owns.drewN (h : Owns w base e size A n cap xs) (k : Nat) : Owns (w.drewN k) base e size A n cap xs := h
theorem Owns.alloc (h : Owns w base e size A n cap xs) (o : Obj) : Owns (w.alloc o) base e size A n cap xs :=
  h.kept fun g hg => heap_alloc_old w o (h.lt g hg).2
theorem Owns.setCell (h : Owns w base e size A n cap xs) {p : Addr} (hp : blockOf A ≠ some p.block) (u : Value) : Owns (w.setCell p u) base e size A n cap xs :=
  h.kept fun g hg => Below.heap_setCell w p u g (fun e => hp (by rw [← e]; exact hg))
theorem Owns.grown (h : Owns w base e size A n cap xs) {row : Option Nat} (hg : w.grownBy w' row) (hr : ∀ g, blockOf A = some g → some g ≠ row) : Owns w' base e size A n cap xs :=
  h.kept fun g hb => hg.block g (h.lt g hb).2 (hr g hb)
theorem Owns.mono (h : Owns w base e size A n cap xs) {base' : Nat} (hb : base' ≤ base) : Owns w base' e size A n cap xs :=
  ⟨h.1, h.2.1, h.2.2.1, h.2.2.2.1, fun ad ha => by
    obtain ⟨g, off, rfl, hb', r⟩ := h.2.2.2.2 ad ha
    exact ⟨g, off, rfl, by omega, r⟩⟩
theorem Owns.rd (h : Owns w base e size A n cap xs) : Reads w w.heap.size size A n xs := by
  refine ⟨h.1, fun hn => ?_⟩
  cases hA : A with
  | none => have := h.2.2.2.1 hA; have := h.2.1; omega
  | some ad =>
    obtain ⟨g, off, rfl, hb, cur, hc, hs, hx⟩ := h.2.2.2.2 ad hA
    refine ⟨g, off, rfl, (h.lt g (by rw [hA]; rfl)).2, fun j u hu => ?_⟩
    rw [cell_of_row w g (off + j) cur e (0, 0) hc, hx j (by
      have := (List.getElem?_eq_some_iff.1 hu).1
      have := h.1; omega)]
    exact hu
/-- A cell of what is owned. -/
theorem Owns.cell (h : Owns w base e size (some ⟨g, off, none⟩) n cap xs) {j : Nat} (hj : j < n * size) : w.cell? ⟨g, off + j, none⟩ = xs[j]? := by
  obtain ⟨g', off', hv, hb, cur, hc, hs, hx⟩ := h.2.2.2.2 _ rfl
  cases hv
  rw [cell_of_row w g (off + j) cur e (0, 0) hc, hx j hj]
theorem Owns.free (h : Owns w base e size (some ⟨g, off, none⟩) n cap xs) (j : Nat) : w.frozen? ⟨g, j, none⟩ = false := by
  obtain ⟨g', off', hv, hb, cur, hc, hs, hx⟩ := h.2.2.2.2 _ rfl
  cases hv
  simp [World.frozen?, hc]
theorem Owns.form (h : Owns w base e size A n cap xs) (hn : 0 < n) : ∃ g off, A = some ⟨g, off, none⟩ ∧ base ≤ g ∧ g < w.heap.size := by
  cases A with
  | none => have := h.2.2.2.1 rfl; have := h.2.1; omega
  | some ad =>
    obtain ⟨g, off, rfl, hb, _⟩ := h.2.2.2.2 ad rfl
    exact ⟨g, off, rfl, hb, (h.lt g rfl).2⟩
/-- A store into one of its cells. -/
theorem Owns.set_ (h : Owns w base e size (some ⟨g, off, none⟩) n cap xs) {j : Nat} (hj : j < n * size) (u : Value) :
    Owns (w.setCell ⟨g, off + j, none⟩ u) base e size (some ⟨g, off, none⟩) n cap (xs.set j u) := by
  obtain ⟨g', off', hv, hb, cur, hc, hs, hx⟩ := h.2.2.2.2 _ rfl
  cases hv
  have hn := Nat.mul_le_mul_right size h.2.1
  refine ⟨by simp [h.1], h.2.1, h.2.2.1, (fun h => by cases h), fun ad ha => ?_⟩
  cases ha
  refine ⟨g, off, rfl, hb, cur.setIfInBounds (off + j) u, by simp [World.setCell, Array.getElem?_modify, hc], by simpa using hs, fun i hi => ?_⟩
  rw [Array.getElem?_setIfInBounds, List.getElem?_set]
  by_cases hij : i = j
  · subst hij
    have hl : i < xs.length := by rw [h.1]; exact hi
    simp [hl]
    omega
  · rw [if_neg (by omega), if_neg (by omega)]
    exact hx i hi
/-- The first m elements. -/
theorem Owns.take (h : Owns w base e size A n cap xs) {m : Nat} (hm : m ≤ n) : Owns w base e size A m cap (xs.take (m * size)) := by
  have hms : m * size ≤ n * size := Nat.mul_le_mul_right _ hm
  refine ⟨by rw [List.length_take, h.1]; omega, by have := h.2.1; omega, h.2.2.1, h.2.2.2.1, fun ad ha => ?_⟩
  obtain ⟨g, off, rfl, hb', cur, hc, hs, hx⟩ := h.2.2.2.2 ad ha
  exact ⟨g, off, rfl, hb', cur, hc, hs, fun j hj => by rw [hx j (by omega), List.getElem?_take_of_lt hj]⟩
/-- With less room. -/
theorem Owns.less (h : Owns w base e size A n cap xs) {cap' : Nat} (h1 : n ≤ cap') (h2 : cap' ≤ cap) : Owns w base e size A n cap' xs := by
  refine ⟨h.1, h1, by have := h.2.2.1; omega, fun ha => by have := h.2.2.2.1 ha; omega, fun ad ha => ?_⟩
  obtain ⟨g, off, rfl, hb', cur, hc, hs, hx⟩ := h.2.2.2.2 ad ha
  exact ⟨g, off, rfl, hb', cur, hc, by have := Nat.mul_le_mul_right size h2; omega, hx⟩
/-- A new block. -/
theorem Owns.new_ (w : World) (e : TypeId) (size n : Nat) (cs : Array Value) (hcs : cs.size = n * size) (hn : n ≤ maxLen) (hb : base ≤ w.heap.size) :
    Owns (w.alloc (.cells cs e)) base e size (some ⟨w.heap.size, 0, none⟩) n n cs.toList :=
  ⟨by simp [hcs], Nat.le_refl _, hn, (fun h => by cases h), fun ad ha => by
    cases ha
    exact ⟨_, 0, rfl, hb, cs, heap_alloc_new w _, by simp [hcs], fun j hj => by simp⟩⟩
end

/-! ### a block that is known whole -/
def Blk (w : World) (g : Nat) (t : TypeId) (cs : Array Value) : Prop := w.heap[g]? = some (.cells cs t (0, 0))

section
variable {w w' : World} {g : Nat} {t : TypeId} {cs : Array Value}
theorem Blk.lt (h : Blk w g t cs) : g < w.heap.size := by
  rcases Nat.lt_or_ge g w.heap.size with hlt | hge
  · exact hlt
  · unfold Blk at h; rw [Array.getElem?_eq_none hge] at h; cases h
theorem Blk.cell (h : Blk w g t cs) (i : Nat) : w.cell? ⟨g, i, none⟩ = cs[i]? := cell_of_row w g i cs t (0, 0) h
theorem Blk.frozen (h : Blk w g t cs) (i : Nat) : w.frozen? ⟨g, i, none⟩ = false := by
  unfold Blk at h
  simp [World.frozen?, h]
theorem Blk.new_ (w : World) (t : TypeId) (cs : Array Value) : Blk (w.alloc (.cells cs t)) w.heap.size t cs := heap_alloc_new w _
theorem Blk.three {a b c : Value} (h : Blk w g t #[a, b, c]) : (w.cell? ⟨g, 0, none⟩ = some a ∧ w.cell? ⟨g, 1, none⟩ = some b ∧ w.cell? ⟨g, 2, none⟩ = some c) ∧ w.frozen? ⟨g, 0, none⟩ = false ∧ w.frozen? ⟨g, 1, none⟩ = false ∧ w.frozen? ⟨g, 2, none⟩ = false :=
  ⟨⟨h.cell 0, h.cell 1, h.cell 2⟩, h.frozen 0, h.frozen 1, h.frozen 2⟩
theorem Blk.drew (h : Blk w g t cs) : Blk w.drew g t cs := h
theorem Blk.drewN (h : Blk w g t cs) (n : Nat) : Blk (w.drewN n) g t cs := h
theorem Blk.alloc (h : Blk w g t cs) (o : Obj) : Blk (w.alloc o) g t cs := (Below.heap_alloc w o g h.lt).trans h
theorem Blk.set_ (h : Blk w g t cs) (i : Nat) (u : Value) : Blk (w.setCell ⟨g, i, none⟩ u) g t (cs.setIfInBounds i u) := by
  unfold Blk at h ⊢
  simp [World.setCell, Array.getElem?_modify, h]
theorem Blk.far (h : Blk w g t cs) {p : Addr} (hp : g ≠ p.block) (u : Value) : Blk (w.setCell p u) g t cs := (Below.heap_setCell w p u g hp).trans h
theorem Blk.below {B : Nat} (h : Blk w g t cs) (hb : Below B w w') (hg : g < B) : Blk w' g t cs := (hb.block g hg).trans h
theorem Blk.grown {row : Option Nat} (h : Blk w g t cs) (hb : w.grownBy w' row) (hg : some g ≠ row) : Blk w' g t cs := (hb.block g h.lt hg).trans h
end

theorem Owns.ne_ {w : World} {base : Nat} {e : TypeId} {size n cap g off : Nat} {xs : List Value} {G : Nat} {t : TypeId} {cs : Array Value} (h : Owns w base e size (some ⟨g, off, none⟩) n cap xs) (hG : Blk w G t cs) (hne : e ≠ t) : g ≠ G := by
  rintro rfl
  obtain ⟨g', off', hv, _, cur, hc, _⟩ := h.2.2.2.2 _ rfl
  cases hv
  unfold Blk at hG
  rw [hc] at hG
  injection hG with hG
  injection hG with _ h2
  exact hne h2

/-! ### append -/

theorem setCells_block (g : Nat) (t : TypeId) (fr : Nat × Nat) : ∀ (vs : List Value) (o : Nat) (w : World) (cur : Array Value), w.heap[g]? = some (.cells cur t fr) →
    ∃ cur', (w.setCells g o vs).heap[g]? = some (.cells cur' t fr) ∧ cur'.size = cur.size
  | [], _, _, cur, h => ⟨cur, h, rfl⟩
  | v :: r, o, w, cur, h => by
    obtain ⟨cur', h1, h2⟩ := setCells_block g t fr r (o + 1) (w.setCell ⟨g, o, none⟩ v) (cur.setIfInBounds o v) (by simp [World.setCell, Array.getElem?_modify, h])
    exact ⟨cur', h1, by rw [h2]; simp⟩

theorem setCells_far (g : Nat) : ∀ (vs : List Value) (o : Nat) (w : World) (k : Nat), k ≠ g → (w.setCells g o vs).heap[k]? = w.heap[k]?
  | [], _, _, _, _ => rfl
  | v :: r, o, w, k, h => by
    rw [World.setCells, setCells_far g r (o + 1) _ k h]
    exact Below.heap_setCell w _ v k h

theorem setCells_rest (g : Nat) : ∀ (vs : List Value) (o : Nat) (w : World), (w.setCells g o vs).os = w.os ∧ (w.setCells g o vs).tape = w.tape ∧ (w.setCells g o vs).output = w.output ∧ (w.setCells g o vs).heap.size = w.heap.size
  | [], _, _ => ⟨rfl, rfl, rfl, rfl⟩
  | v :: r, o, w => by
    obtain ⟨h1, h2, h3, h4⟩ := setCells_rest g r (o + 1) (w.setCell ⟨g, o, none⟩ v)
    exact ⟨h1, h2, h3, h4.trans (by simp [World.setCell])⟩

section
variable {P : Program}

theorem run_app (w : World) (t tx ty e : TypeId) (i : TypeInfo) (z : Value) (ht : P.underlying t = some (.slice e)) (hi : P.info? e = some i) (hz : i.zero = some z) (hzs : z.cells.size = i.size)
    (base : Nat) (A : Option Addr) (n cap : Nat) (xs : List Value) (hown : Owns w base e i.size A n cap xs)
    (x : Value) (m : Nat) (news : List Value) (hs : Src P i.size tx x m news w)
    (hbytes : (n + m) * i.bytes ≤ 140737488355328) (h63 : n + m ≤ 9223372036854775807) (hbase : base ≤ w.heap.size) :
    ∃ A' cap' w', (Builtin.append_ #[t, tx] ty #[.slice A n cap, x]).run P w = .ok (.slice A' (n + m) cap') w' ∧
      Owns w' base e i.size A' (n + m) cap' (xs ++ news) ∧ w.grownBy w' (blockOf A) ∧ (A' = A ∨ blockOf A' = some w.heap.size) ∧ (0 < m → A' ≠ none) := by
  have hlen : (xs ++ news).length = (n + m) * i.size := by rw [List.length_append, hown.1, hs.newsLen, Nat.add_mul]
  by_cases hroom : n + m ≤ cap
  · cases hA : A with
    | none =>
      subst hA
      have hc0 := hown.2.2.2.1 rfl
      obtain rfl : cap = 0 := hc0
      obtain rfl : n = 0 := by omega
      obtain rfl : m = 0 := by omega
      have hx : xs = [] := List.eq_nil_of_length_eq_zero (by simpa using hown.1)
      have hn : news = [] := List.eq_nil_of_length_eq_zero (by simpa using hs.newsLen)
      subst hx hn
      refine ⟨none, 0, w, ?_, Owns.nil_ w base e i.size, ⟨rfl, rfl, rfl, Nat.le_refl _, fun _ _ _ => rfl⟩, .inl rfl, fun h => absurd h (by omega)⟩
      have hc := hs.cells
      rcases hs.kind with ⟨e', hk⟩ | hk <;> simp [Builtin.append_, run_underlying ht, run_underlying hk, sizeOf, typeInfo, hi, hs.len, hc]
    | some ad =>
      subst hA
      obtain ⟨g, off, rfl, hb, cur, hc, hsz, hx⟩ := hown.2.2.2.2 ad rfl
      have hnn : n * i.size + news.length ≤ cap * i.size := by rw [hs.newsLen, ← Nat.add_mul]; exact Nat.mul_le_mul_right _ hroom
      have hcell : ∀ j, w.cell? ⟨g, j, none⟩ = cur[j]? := fun j => cell_of_row w g j cur e (0, 0) hc
      have hex : ∀ j, j < news.length → (w.cell? ⟨g, off + n * i.size + j, none⟩).isSome = true := fun j hj => by
        rw [hcell, Array.getElem?_eq_getElem (by omega)]; rfl
      have hfr : ∀ j, j < news.length → w.frozen? ⟨g, off + n * i.size + j, none⟩ = false := fun j _ => by simp [World.frozen?, hc]
      have hrun := run_append_room_src (P := P) w t tx ty e i ht hi g off n cap x m news hs hroom hex hfr
      obtain ⟨cur', hc', hcs'⟩ := setCells_block g e (0, 0) news (off + n * i.size) w cur hc
      obtain ⟨r1, r2, r3, r4⟩ := setCells_rest g news (off + n * i.size) w
      refine ⟨_, _, _, hrun, ⟨hlen, hroom, hown.2.2.1, (fun h => by cases h), fun ad ha => ?_⟩, ⟨r1, r2, r3, by omega, fun k _ hk => setCells_far g news _ w k (fun e => hk (by rw [e]; rfl))⟩, .inl rfl, fun _ h => by cases h⟩
      cases ha
      refine ⟨g, off, rfl, hb, cur', hc', by omega, fun j hj => ?_⟩
      rw [← cell_of_row _ g (off + j) cur' e (0, 0) hc']
      by_cases hjn : j < n * i.size
      · rw [World.cell?_setCells_out g news _ w _ (fun _ _ => .inl (by show off + j < _; omega)), hcell, hx j hjn, List.getElem?_append_left (by rw [hown.1]; exact hjn)]
      · have hjl : j - n * i.size < news.length := by rw [hs.newsLen]; rw [Nat.add_mul] at hj; omega
        have h := World.cell?_setCells_in g news (off + n * i.size) w hex (j - n * i.size) hjl
        rw [show off + n * i.size + (j - n * i.size) = off + j from by omega] at h
        rw [h, List.getElem?_append_right (by rw [hown.1]; omega), hown.1, List.getElem?_eq_getElem hjl]
  · have hold : (Builtin.firstCells i.size n (.slice A n cap)).run P w.drew = .ok xs.toArray w.drew := by
      cases hA : A with
      | none =>
        have := hown.2.2.2.1 hA
        obtain rfl : n = 0 := by have := hown.2.1; omega
        have hx : xs = [] := List.eq_nil_of_length_eq_zero (by simpa using hown.1)
        subst hx
        exact run_firstCells_none w.drew i.size 0 0 cap
      | some ad =>
        obtain ⟨g, off, rfl, hb, cur, hc, hsz, hx⟩ := hown.2.2.2.2 ad hA
        refine run_firstCells_some w.drew i.size n _ n cap xs hown.1 fun j u hu => ?_
        rw [show ((⟨g, off, none⟩ : Addr).add j) = ⟨g, off + j, none⟩ from by unfold Addr.add; split <;> simp_all, World.cell?_drew, cell_of_row w g (off + j) cur e (0, 0) hc, hx j (by
          have := (List.getElem?_eq_some_iff.1 hu).1
          have := hown.1; omega)]
        exact hu
    have hrun := run_append_grow_src (P := P) w t tx ty e i z ht hi hz A n cap xs hold x m news hs (by omega) (by omega) (growslice_fits (by omega) hbytes)
    have hge := grownCap_ge w (n + m) cap e
    have hcm : grownCap w (n + m) cap e ≤ maxLen := grownCap_le_maxLen w (n + m) cap e (by unfold maxLen; omega)
    refine ⟨_, _, _, hrun, ⟨hlen, hge, hcm, (fun h => by cases h), fun ad ha => ?_⟩, ⟨rfl, rfl, rfl, by simp, fun k hk _ => heap_alloc_old w.drew _ hk⟩, .inr rfl, fun _ h => by cases h⟩
    cases ha
    refine ⟨w.heap.size, 0, rfl, hbase, _, heap_alloc_new w.drew _, ?_, fun j hj => ?_⟩
    · simp only [Array.size_append, List.size_toArray, size_zeroCells, hzs, hlen, ← Nat.add_mul]
      rw [show n + m + (grownCap w (n + m) cap e - (n + m)) = grownCap w (n + m) cap e from by omega]
      omega
    · rw [Nat.zero_add, Array.getElem?_append_left (by rw [List.size_toArray, hlen]; exact hj)]
      simp

theorem wp_app {o : Oper} {a : Act} {K : Act → World → Prop} {Q : Exit → Act → World → Prop} (w : World) (s x : Operand) (t tx : TypeId)
    (ho : o.op = .call { callee := .builtin .append, args := #[s, x], argTypes := #[t, tx] })
    (e : TypeId) (z : Value) (size bytes : Nat) (ht : P.underlying t = some (.slice e)) (hi : (P.info? e).map (fun i => (i.zero, i.size, i.bytes)) = some (some z, size, bytes)) (hzs : z.cells.size = size)
    (base : Nat) (A : Option Addr) (n cap : Nat) (xs : List Value) (hsv : a.eval s = .slice A n cap) (hown : Owns w base e size A n cap xs)
    (xv : Value) (m : Nat) (news : List Value) (hxv : a.eval x = xv) (hs : Src P size tx xv m news w)
    (hbytes : (n + m) * bytes ≤ 140737488355328) (h63 : n + m ≤ 9223372036854775807) (hbase : base ≤ w.heap.size)
    (h : ∀ A' cap' w', Owns w' base e size A' (n + m) cap' (xs ++ news) → w.grownBy w' (blockOf A) → (A' = A ∨ blockOf A' = some w.heap.size) → (0 < m → A' ≠ none) → K (a.put o.dst (.slice A' (n + m) cap')) w') : o.wp P a w K Q := by
  obtain ⟨i, hi0, hz0, rfl, rfl⟩ := info_parts hi
  obtain ⟨A', cap', w', hr, h2, h3, h4, h5⟩ := run_app (P := P) w t tx o.type e i z ht hi0 hz0 hzs base A n cap xs hown xv m news hs hbytes h63 hbase
  unfold Oper.wp execOp
  simp only [ho, resolve, invoke, builtin, Sem.run_bind, Sem.run_pure, Result.andThen_ok, List.map_toArray, List.map_cons, List.map_nil, hsv, hxv, hr]
  exact h A' cap' w' h2 h3 h4 h5

theorem wpList_app {ops : Array Oper} {rest : List Oper} {o : Oper} {a : Act} {Q : Exit → Act → World → Prop} (w : World) (hgd : o.guard = none) (s x : Operand) (t tx : TypeId)
    (ho : o.op = .call { callee := .builtin .append, args := #[s, x], argTypes := #[t, tx] })
    (e : TypeId) (z : Value) (size bytes : Nat) (ht : P.underlying t = some (.slice e)) (hi : (P.info? e).map (fun i => (i.zero, i.size, i.bytes)) = some (some z, size, bytes)) (hzs : z.cells.size = size)
    (base : Nat) (A : Option Addr) (n cap : Nat) (xs : List Value) (hsv : a.eval s = .slice A n cap) (hown : Owns w base e size A n cap xs)
    (xv : Value) (m : Nat) (news : List Value) (hxv : a.eval x = xv) (hs : Src P size tx xv m news w)
    (hbytes : (n + m) * bytes ≤ 140737488355328) (h63 : n + m ≤ 9223372036854775807) (hbase : base ≤ w.heap.size)
    (h : ∀ A' cap' w', Owns w' base e size A' (n + m) cap' (xs ++ news) → w.grownBy w' (blockOf A) → (A' = A ∨ blockOf A' = some w.heap.size) → (0 < m → A' ≠ none) → wpList P ops Q rest (a.put o.dst (.slice A' (n + m) cap')) w') : wpList P ops Q (o :: rest) a w :=
  wpList_plain hgd fun _ hK => wp_app w s x t tx ho e z size bytes ht hi hzs base A n cap xs hsv hown xv m news hxv hs hbytes h63 hbase fun A' cap' w' h2 h3 h4 h5 => hK _ _ (h A' cap' w' h2 h3 h4 h5)

/-- append of what lies in the block that is the last one: a struct or a few values, built for the append. -/
theorem wpList_app_new {ops : Array Oper} {rest : List Oper} {o : Oper} {a : Act} {Q : Exit → Act → World → Prop} (w : World) (news : List Value) (e' : TypeId) (hgd : o.guard = none) (s x : Operand) (t : TypeId)
    (ho : o.op = .call { callee := .builtin .append, args := #[s, x], argTypes := #[t, t] })
    (e : TypeId) (z : Value) (size bytes : Nat) (ht : P.underlying t = some (.slice e)) (hi : (P.info? e).map (fun i => (i.zero, i.size, i.bytes)) = some (some z, size, bytes)) (hzs : z.cells.size = size)
    (base : Nat) (A : Option Addr) (n cap : Nat) (xs : List Value) (gs m c : Nat) (hsv : a.eval s = .slice A n cap) (hxv : a.eval x = .slice (some ⟨gs, 0, none⟩) m c) (hown : Owns w base e size A n cap xs)
    (hgs : gs = w.heap.size) (hl : news.length = m * size) (h1 : ∀ u ∈ news, u.oneCell' = true)
    (hbytes : (n + m) * bytes ≤ 140737488355328) (h63 : n + m ≤ 9223372036854775807) (hbase : base ≤ w.heap.size)
    (h : ∀ A' cap' w', Owns w' base e size A' (n + m) cap' (xs ++ news) → w.grownBy w' (blockOf A) → (A' = A ∨ ∃ g, blockOf A' = some g ∧ w.heap.size ≤ g) → (0 < m → A' ≠ none) → wpList P ops Q rest (a.put o.dst (.slice A' (n + m) cap')) w') :
    wpList P ops Q (o :: rest) a (w.alloc (.cells news.toArray e')) := by
  subst hgs
  have hsrc : Src P size t (.slice (some ⟨w.heap.size, 0, none⟩) m c) m news (w.alloc (.cells news.toArray e')) := by
    refine Src.ofSlice _ ht _ m c news hl (fun j u hu => ?_) h1
    rw [show ((⟨w.heap.size, 0, none⟩ : Addr).add j) = ⟨w.heap.size, j, none⟩ from by unfold Addr.add; split <;> simp_all, cell_of_row _ w.heap.size j news.toArray e' (0, 0) (heap_alloc_new w _)]
    simpa using hu
  refine wpList_app _ hgd s x t t ho e z size bytes ht hi hzs base A n cap xs hsv (hown.alloc _) _ m news hxv hsrc hbytes h63 (by simp; omega) fun A' cap' w' g1 g2 g3 g4 => h A' cap' w' g1 ⟨g2.os, g2.tape, g2.output, by have := g2.size; simp at this; omega, fun k hk hne => (g2.block k (by simp; omega) hne).trans (heap_alloc_old w _ hk)⟩ ?_ g4
  rcases g3 with g3 | g3
  · exact .inl g3
  · exact .inr ⟨_, g3, by simp⟩

/-- A slice, nil or not, as what is appended. -/
theorem Src.rd {w : World} {size : Nat} {tx e' : TypeId} (hk : P.underlying tx = some (.slice e')) {B : Nat} {A : Option Addr} {n c : Nat} {xs : List Value} (h : Reads w B size A n xs) (h1 : ∀ u ∈ xs, u.oneCell' = true) :
    Src P size tx (.slice A n c) n xs w := by
  rcases Nat.eq_zero_or_pos n with h0 | h0
  · subst h0
    have hx : xs = [] := List.eq_nil_of_length_eq_zero (by simpa using h.1)
    subst hx
    cases A with
    | none => exact Src.ofNil w hk c
    | some ad => exact Src.ofSlice w hk ad 0 c [] (by simp) (fun j u hu => by simp at hu) h1
  · obtain ⟨g, off, rfl, _, hc⟩ := h.2 h0
    refine Src.ofSlice w hk _ n c xs h.1 (fun j u hu => ?_) h1
    rw [show ((⟨g, off, none⟩ : Addr).add j) = ⟨g, off + j, none⟩ from by unfold Addr.add; split <;> simp_all]
    exact hc j u hu

/-- One new block of cells, as what is appended. -/
theorem Src.new_ {w : World} {size : Nat} {tx e' e : TypeId} (hk : P.underlying tx = some (.slice e')) (n c : Nat) (cs : List Value) (hl : cs.length = n * size) (h1 : ∀ u ∈ cs, u.oneCell' = true) :
    Src P size tx (.slice (some ⟨w.heap.size, 0, none⟩) n c) n cs (w.alloc (.cells cs.toArray e)) := by
  refine Src.ofSlice _ hk _ n c cs hl (fun j u hu => ?_) h1
  rw [show ((⟨w.heap.size, 0, none⟩ : Addr).add j) = ⟨w.heap.size, j, none⟩ from by unfold Addr.add; split <;> simp_all, cell_of_row _ w.heap.size j cs.toArray e (0, 0) (heap_alloc_new w _)]
  simpa using hu
end
end Go.Proofs.YtnmnbefbadhkgaaDoor
