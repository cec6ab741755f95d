/-
  WALK: log.put.
-/
import Derived.Test.YtnmnbefbadhkgaaDoorLogB
namespace Go.Proofs.YtnmnbefbadhkgaaDoor
open Go Go.RowKit

/-- append of a new row, as a step of a region that draws. -/
theorem step_app_new {P : Program} {ops : Array Oper} {o : Oper} {a : Act} {K : Act → World → Prop} {Q : Exit → Act → World → Prop} {E : Prop} (w : World) (news : List Value) (e' : TypeId) (hgd : o.guard = none) (s x : Operand) (t : TypeId)
    (ho : o.op = .call { callee := .builtin .append, args := #[s, x], argTypes := #[t, t] })
    (e : TypeId) (z : Value) (size bytes : Nat) (ht : P.underlying t = some (.slice e)) (hi : (P.info? e).map (fun i => (i.zero, i.size, i.bytes)) = some (some z, size, bytes)) (hzs : z.cells.size = size)
    (base : Nat) (A : Option Addr) (n cap : Nat) (xs : List Value) (gs m c : Nat) (hsv : a.eval s = .slice A n cap) (hxv : a.eval x = .slice (some ⟨gs, 0, none⟩) m c) (hown : Owns w base e size A n cap xs)
    (hgs : gs = w.heap.size) (hl : news.length = m * size) (h1 : ∀ u ∈ news, u.oneCell' = true)
    (hbytes : (n + m) * bytes ≤ 140737488355328) (h63 : n + m ≤ 9223372036854775807) (hbase : base ≤ w.heap.size)
    (hK : ∀ A' cap' w', Owns w' base e size A' (n + m) cap' (xs ++ news) → w.grownBy w' (blockOf A) → (A' = A ∨ ∃ g, blockOf A' = some g ∧ w.heap.size ≤ g) → (0 < m → A' ≠ none) → K (a.put o.dst (.slice A' (n + m) cap')) w') :
    if Region.wanted o (yielded ops a.tmps) = true then Oper.wp P o a (w.alloc (.cells news.toArray e')) K Q else E := by
  rw [if_pos (by simp [Region.wanted, hgd])]
  subst hgs
  have hsrc : Src P size t (.slice (some ⟨w.heap.size, 0, none⟩) m c) m news (w.alloc (.cells news.toArray e')) := by
    refine Src.ofSlice _ ht _ m c news hl (fun j u hu => ?_) h1
    rw [show ((⟨w.heap.size, 0, none⟩ : Addr).add j) = ⟨w.heap.size, j, none⟩ from by unfold Addr.add; split <;> simp_all, cell_of_row _ w.heap.size j news.toArray e' (0, 0) (heap_alloc_new w _)]
    simpa using hu
  refine wp_app _ s x t t ho e z size bytes ht hi hzs base A n cap xs hsv (hown.alloc _) _ m news hxv hsrc hbytes h63 (by simp; omega) fun A' cap' w' g1 g2 g3 g4 => hK A' cap' w' g1 ⟨g2.os, g2.tape, g2.output, by have := g2.size; simp at this; omega, fun k hk hne => (g2.block k (by simp; omega) hne).trans (heap_alloc_old w _ hk)⟩ ?_ g4
  rcases g3 with g3 | g3
  · exact .inl g3
  · exact .inr ⟨_, g3, by simp⟩

def u8V (l : List UInt8) : List Value := l.map fun b => .int .u8 (b.toNat : Int)
theorem u8V_length (l : List UInt8) : (u8V l).length = l.length := by simp [u8V]
theorem u8V_append (a b : List UInt8) : u8V (a ++ b) = u8V a ++ u8V b := by simp [u8V]
theorem infoU8 : (Tryd.prog.info? 5).map (fun i => (i.zero, i.size, i.bytes)) = some (some (.int .u8 0), 1, 1) := by kernel_rfl

theorem or128 : ∀ y : Fin 256, ((y : Nat) ||| 128) = (y : Nat) % 128 + 128 := by decide +kernel
theorem byteMore (m : Nat) : bits .or .u8 (IntKind.u8.wrap (m : Int)) 128 = (((UInt8.ofNat (m % 128 + 128)).toNat : Nat) : Int) := by
  have e : IntKind.u8.wrap (m : Int) = ((m % 256 : Nat) : Int) := by simp [IntKind.wrap, IntKind.bits, IntKind.signed]
  rw [e, show (128 : Int) = ((128 : Nat) : Int) from rfl, u8_or_nat _ _ (Nat.mod_lt _ (by omega)) (by omega)]
  have := or128 ⟨m % 256, Nat.mod_lt _ (by omega)⟩
  simp only at this
  rw [this]
  simp
  omega
theorem byteLast (m : Nat) (h : m < 128) : IntKind.u8.wrap (m : Int) = (((UInt8.ofNat m).toNat : Nat) : Int) := by
  have e : IntKind.u8.wrap (m : Int) = ((m % 256 : Nat) : Int) := by simp [IntKind.wrap, IntKind.bits, IntKind.signed]
  rw [e]
  simp

theorem Reads.apart {w w' : World} {B size n : Nat} {A : Option Addr} {xs : List Value} (h : Reads w B size A n xs) {row : Option Nat} (hg : w.grownBy w' row) (hB : B ≤ w.heap.size) (hs : 0 < n → ∀ g, row = some g → blockOf A ≠ some g) : Reads w' B size A n xs :=
  ⟨h.1, fun hn => by
    obtain ⟨g, off, e, hb, hc⟩ := h.2 hn
    refine ⟨g, off, e, hb, fun j u hu => ?_⟩
    rw [World.cell?_of_block (w := w) (hg.block g (by omega) (fun e' => hs hn g e'.symm (by rw [e]; rfl)))]
    exact hc j u hu⟩

theorem reads_row (w : World) (t : TypeId) (size n : Nat) (cs : List Value) (hl : cs.length = n * size) : Reads (w.alloc (.cells cs.toArray t)) (w.heap.size + 1) size (some ⟨w.heap.size, 0, none⟩) n cs :=
  ⟨hl, fun _ => ⟨w.heap.size, 0, rfl, by omega, fun j u hu => by rw [cell_of_row _ w.heap.size (0 + j) cs.toArray t (0, 0) (heap_alloc_new w _), Nat.zero_add]; simpa using hu⟩⟩

/-- What is written for a row of numbers. -/
def encs (ns : List Int) : List UInt8 := ns.flatMap fun n => enc n.toNat
theorem encs_snoc (ns : List Int) (k : Nat) (h : k < ns.length) : encs (ns.take (k + 1)) = encs (ns.take k) ++ enc ns[k].toNat := by
  unfold encs
  rw [List.take_succ_eq_append_getElem h, List.flatMap_append]
  simp
theorem encF_le : ∀ (f n : Nat), (encF f n).length ≤ f
  | 0, _ => by simp [encF]
  | f + 1, n => by
    rw [encF]
    split
    · simp
    · have := encF_le f (n / 128); simp; omega
theorem encs_le (ns : List Int) : (encs ns).length ≤ ns.length * 10 := by
  unfold encs
  induction ns with
  | nil => simp
  | cons n ns ih =>
    have := encF_le 10 n.toNat
    simp only [List.flatMap_cons, List.length_append, List.length_cons]
    unfold enc at ih ⊢
    omega
theorem encs_take_le (ns : List Int) (k : Nat) : (encs (ns.take k)).length ≤ ns.length * 10 := by
  have := encs_le (ns.take k)
  have h2 : (ns.take k).length ≤ ns.length := by simp [List.length_take]; omega
  omega

theorem encs_take_lt (ns : List Int) (k : Nat) (h : k < ns.length) : (encs (ns.take k)).length + 10 ≤ ns.length * 10 := by
  have := encs_le (ns.take k)
  have h2 : (ns.take k).length ≤ k := List.length_take_le k ns
  omega

/-- The bytes that the call owns, after some were put. -/
def PutAt (w : World) (base : Nat) (A : Option Addr) (wr : World) (A' : Option Addr) (n cap : Nat) (bs : List UInt8) : Prop :=
  Owns wr base 5 1 A' n cap (u8V bs) ∧ w.grownBy wr (blockOf A) ∧ (A' = A ∨ ∃ g, blockOf A' = some g ∧ w.heap.size ≤ g)
theorem PutAt.len {w : World} {base : Nat} {A : Option Addr} {wr : World} {A' : Option Addr} {n cap : Nat} {bs : List UInt8} (h : PutAt w base A wr A' n cap bs) : n = bs.length := by
  have := h.1.1
  rw [u8V_length] at this
  omega
theorem PutAt.more {w : World} {base : Nat} {A : Option Addr} {wr w3 : World} {A' A3 : Option Addr} {n cap n3 cap3 : Nat} {bs : List UInt8} {b : UInt8} (h : PutAt w base A wr A' n cap bs)
    (hown : Owns w3 base 5 1 A3 n3 cap3 (u8V bs ++ [.int .u8 (b.toNat : Int)])) (hg : wr.grownBy w3 (blockOf A')) (hA : A3 = A' ∨ ∃ g, blockOf A3 = some g ∧ wr.heap.size ≤ g) : PutAt w base A w3 A3 n3 cap3 (bs ++ [b]) := by
  refine ⟨by rw [u8V_append]; exact hown, ⟨hg.os.trans h.2.1.os, hg.tape.trans h.2.1.tape, hg.output.trans h.2.1.output, Nat.le_trans h.2.1.size hg.size, fun k hk hne => ?_⟩, ?_⟩
  · rw [hg.block k (Nat.lt_of_lt_of_le hk h.2.1.size) (fun e => ?_)]
    · exact h.2.1.block k hk hne
    · rcases h.2.2 with h2 | ⟨g, hg2, hge⟩
      · exact hne (by rw [← h2]; exact e)
      · rw [hg2] at e; cases e; omega
  · rcases hA with hA | ⟨g, h1, h2⟩
    · subst hA; exact h.2.2
    · exact .inr ⟨g, h1, Nat.le_trans h.2.1.size h2⟩

theorem PutAt.put {w : World} {base : Nat} {wr w3 : World} {A1 A3 : Option Addr} {n1 cap1 n3 cap3 : Nat} {bs bs' : List UInt8} (hb : base ≤ w.heap.size) (h : PutAt w base none wr A1 n1 cap1 bs) (hP : PutAt wr base A1 w3 A3 n3 cap3 bs') : PutAt w base none w3 A3 n3 cap3 bs' := by
  refine ⟨hP.1, ⟨hP.2.1.os.trans h.2.1.os, hP.2.1.tape.trans h.2.1.tape, hP.2.1.output.trans h.2.1.output, Nat.le_trans h.2.1.size hP.2.1.size, fun k hk hne => ?_⟩, ?_⟩
  · rw [hP.2.1.block k (Nat.lt_of_lt_of_le hk h.2.1.size) (fun e => ?_)]
    · exact h.2.1.block k hk hne
    · rcases h.2.2 with h2 | ⟨g, hg, hge⟩
      · subst h2; cases e
      · rw [hg] at e; cases e; omega
  · rcases hP.2.2 with h3 | ⟨g, h3, h4⟩
    · subst h3; exact h.2.2
    · exact .inr ⟨g, h3, Nat.le_trans h.2.1.size h4⟩
theorem PutAt.bel {w : World} {base : Nat} {wr : World} {A1 : Option Addr} {n1 cap1 : Nat} {bs : List UInt8} (h : PutAt w base none wr A1 n1 cap1 bs) : Below w.heap.size w wr :=
  ⟨h.2.1.os, h.2.1.tape, h.2.1.output, h.2.1.size, fun k hk => h.2.1.block k hk (by simp [blockOf])⟩
theorem PutAt.below {w : World} {base : Nat} {wr w3 : World} {A1 : Option Addr} {n1 cap1 : Nat} {bs : List UInt8} (h : PutAt w base none wr A1 n1 cap1 bs) (hb : Below wr.heap.size wr w3) : PutAt w base none w3 A1 n1 cap1 bs := by
  refine ⟨h.1.below hb (Nat.le_refl _), ⟨hb.os.trans h.2.1.os, hb.tape.trans h.2.1.tape, hb.output.trans h.2.1.output, Nat.le_trans h.2.1.size hb.size, fun k hk hne => ?_⟩, h.2.2⟩
  rw [hb.block k (Nat.lt_of_lt_of_le hk h.2.1.size)]
  exact h.2.1.block k hk hne

def PutRel (w : World) (base : Nat) (A : Option Addr) (bs : List UInt8) (b : Value) (wr : World) : Prop := ∃ A' n cap, b = .slice A' n cap ∧ PutAt w base A wr A' n cap bs

set_option maxRecDepth 100000 in
set_option maxHeartbeats 2000000 in
theorem put_any (w : World) (base : Nat) (A Al : Option Addr) (n cap c : Nat) (bs : List UInt8) (ns : List Int) (hown : Owns w base 5 1 A n cap (u8V bs)) (hbase : base ≤ w.heap.size)
    (hr : Reads w w.heap.size 1 Al ns.length (intsV ns)) (hsep : 0 < ns.length → ∀ g, blockOf A = some g → blockOf Al ≠ some g) (hns : ∀ x ∈ ns, 0 ≤ x ∧ x ≤ 9223372036854775807) (hl : ns.length ≤ maxLen) (hsz : bs.length + ns.length * 10 ≤ 140737488355328) :
    Calls Tryd.prog 35 #[.slice A n cap, .slice Al ns.length c] w fun e w' => ∃ b, e = .returned b ∧ PutRel w base A (bs ++ encs ns) b w' := by
  unfold maxLen at hl
  have hP : PutRel w base A (bs ++ encs (ns.take 0)) (.slice A n cap) w := ⟨A, n, cap, rfl, by simpa [encs] using hown, ⟨rfl, rfl, rfl, Nat.le_refl _, fun _ _ _ => rfl⟩, .inl rfl⟩
  go_enter Tryd.func35, Tryd.ntmps35
  go_wp2
  go_loopw [0, 9] (fun b i wr => ∃ k : Nat, i = .int .i64 k ∧ k ≤ ns.length ∧ PutRel w base A (bs ++ encs (ns.take k)) b wr) (fun _ i _ => ns.length - (intOf i).toNat)
  case atStart => exact ⟨0, rfl, by omega, hP⟩
  case round =>
    obtain ⟨k, rfl, hk, ⟨A1, n1, cap1, rfl, hat⟩⟩ := hrel
    by_cases hkn : k < ns.length
    · obtain ⟨g, off, rfl, hg, d0⟩ := (hr.apart hat.2.1 (Nat.le_refl _) hsep).int hkn
      have hnk := hns _ (List.getElem_mem hkn)
      have HS : Hid (encs (ns.take (k + 1)) = encs (ns.take k) ++ encF 10 ns[k].toNat) := encs_snoc ns k hkn
      have hle := encs_take_le ns k
      obtain ⟨a, ha⟩ : ∃ a, ns[k] = a := ⟨_, rfl⟩
      rw [ha] at d0 hnk HS
      clear ha hP
      obtain ⟨m, rfl⟩ := Int.eq_ofNat_of_zero_le hnk.1
      simp only [Int.toNat_natCast] at HS
      have HAT := Lib.hid hat
      clear hat
      go_wp2
      have hp0 : PutRel w base A (bs ++ encs (ns.take k) ++ []) (.slice A1 n1 cap1) wr := by rw [List.append_nil]; exact ⟨A1, n1, cap1, rfl, HAT.out⟩
      have HP0 := Lib.hid hp0
      clear hp0
      go_loopw [0, 6] (fun b v w3 => ∃ (p : List UInt8) (f j : Nat), v = .int .i64 (j : Nat) ∧ 1 ≤ f ∧ j < 128 ^ f ∧ p.length + f ≤ 10 ∧ Hid (encF 10 m = p ++ encF f j) ∧ PutRel w base A (bs ++ encs (ns.take k) ++ p) b w3) (fun _ v _ => (intOf v).toNat)
      case atStart => exact ⟨[], 10, m, rfl, by omega, Nat.lt_of_le_of_lt (by omega : m ≤ 9223372036854775807) (by decide), by simp, rfl, HP0.out⟩
      case round =>
        clear HAT HP0 d0
        obtain ⟨p, f, j, rfl, hf1, hjf, hpf, HE, ⟨A2, n2, cap2, rfl, hat2⟩⟩ := hrel
        have hn2 : n2 + 10 ≤ 140737488355328 + p.length + 10 ∧ n2 + 1 ≤ 140737488355338 := by
          have h1 := hat2.len
          simp only [List.length_append] at h1
          omega
        have hn3 : n2 + 1 ≤ 140737488355328 := by
          have h1 := hat2.len
          simp only [List.length_append] at h1
          have h2 := encs_take_lt ns k hkn
          omega
        have hown2 := hat2.1
        have hbw : base ≤ wr.heap.size := Nat.le_trans hbase hat2.2.1.size
        have HAT2 := Lib.hid hat2
        clear hat2 hn2
        by_cases hj : j < 128
        · have hb : (UInt8.ofNat j).toNat = j := by simp; omega
          have HB := Lib.hid hb
          clear hb
          go_wp2_with (at_builtin; refine wpList_app_new wr [.int .u8 (j : Int)] 5 rfl (.tmp 23) (.tmp 26) 71 rfl 5 (.int .u8 0) 1 1 Tryd.underlying71 infoU8 rfl base A2 n2 cap2 (u8V (bs ++ encs (ns.take k) ++ p)) wr.heap.size 1 1 rfl rfl hown2 rfl rfl ?_ ?_ ?_ ?_ ?_; (focus (intro u hu; simp at hu; subst hu; rfl)); (focus omega); (focus omega); (focus omega); intro A3 cap3 w4 hown3 hg3 hA3 hA3n)
          go_roundw
          case rel =>
            refine ⟨k + 1, by go_num, by omega, A3, n2 + 1, cap3, rfl, ?_⟩
            have h3 := HAT2.out.more (b := UInt8.ofNat j) (by rw [HB.out]; exact hown3) hg3 hA3
            have e : bs ++ encs (ns.take k) ++ p ++ [UInt8.ofNat j] = bs ++ encs (ns.take (k + 1)) := by
              obtain ⟨f', rfl⟩ : ∃ f', f = f' + 1 := ⟨f - 1, by omega⟩
              rw [HS.out, HE.out, encF, if_pos hj]
              simp
            rw [e] at h3
            exact h3
          case measure => simp [intOf]; omega
        · have hb : bits .or .u8 ((j : Int) % 256) 128 = (((UInt8.ofNat (j % 128 + 128)).toNat : Nat) : Int) := by
            rw [← byteMore j]
            simp [IntKind.wrap, IntKind.bits, IntKind.signed]
          have HB := Lib.hid hb
          clear hb
          go_wp2_with (at_builtin; refine wpList_app_new wr [.int .u8 (bits .or .u8 ((j : Int) % 256) 128)] 5 rfl (.tmp 17) (.tmp 21) 71 rfl 5 (.int .u8 0) 1 1 Tryd.underlying71 infoU8 rfl base A2 n2 cap2 (u8V (bs ++ encs (ns.take k) ++ p)) wr.heap.size 1 1 rfl rfl hown2 rfl rfl ?_ ?_ ?_ ?_ ?_; (focus (intro u hu; simp at hu; subst hu; rfl)); (focus omega); (focus omega); (focus omega); intro A3 cap3 w4 hown3 hg3 hA3 hA3n)
          go_roundw
          case rel =>
            obtain ⟨f', rfl⟩ : ∃ f', f = f' + 1 := ⟨f - 1, by omega⟩
            have hf0 : f' ≠ 0 := fun e => by subst e; simp at hjf; omega
            refine ⟨p ++ [UInt8.ofNat (j % 128 + 128)], f', j / 128, int_eq (by omega), by omega, ?_, by simp; omega, ?_, A3, n2 + 1, cap3, rfl, ?_⟩
            · rw [Nat.pow_succ] at hjf
              exact Nat.div_lt_of_lt_mul (by omega)
            · show encF 10 m = _
              rw [HE.out, encF, if_neg hj]
              simp
            · rw [← List.append_assoc]
              exact HAT2.out.more (by rw [HB.out] at hown3; exact hown3) hg3 hA3
          case measure => simp [intOf]; omega
    · obtain rfl : k = ns.length := by omega
      rw [List.take_length] at hat
      have HAT := Lib.hid hat
      clear hat hP
      go_wp2
      go_ret
      exact ⟨_, rfl, A1, n1, cap1, rfl, HAT.out⟩
end Go.Proofs.YtnmnbefbadhkgaaDoor
