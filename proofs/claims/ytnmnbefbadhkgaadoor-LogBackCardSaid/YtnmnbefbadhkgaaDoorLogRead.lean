/-
  WALK: log.Read.
-/
import Derived.Test.YtnmnbefbadhkgaaDoorLogLine
import Derived.Test.YtnmnbefbadhkgaaDoorLogEnc
import Derived.Test.YtnmnbefbadhkgaaDoorSpanLines
import Derived.Test.YtnmnbefbadhkgaaDoorWorksA
import Derived.Test.YtnmnbefbadhkgaaDoorFree
namespace Go.Proofs.YtnmnbefbadhkgaaDoor
open Go Go.RowKit

theorem grown_set (w : World) (g i : Nat) (v : Value) : w.grownBy (w.setCell ⟨g, i, none⟩ v) (some g) :=
  ⟨rfl, rfl, rfl, (KeepsWalks.setCell w _ v).size, fun k _ hk => Below.heap_setCell _ _ _ k (fun e => hk (by rw [e]))⟩
/-- strconv's two errors are errors. -/
def ErrVal (v : Value) : Prop := v = .nilIface ∨ ∃ te pe, v = .iface te pe
def Errs (W : World) : Prop := (∃ v, W.cell? ⟨1, 0, none⟩ = some v ∧ ErrVal v) ∧ ∃ v, W.cell? ⟨2, 0, none⟩ = some v ∧ ErrVal v
theorem Errs.lt {W : World} (h : Errs W) : 1 < W.heap.size ∧ 2 < W.heap.size := by
  obtain ⟨⟨v, h1, _⟩, u, h2, _⟩ := h
  exact ⟨World.block_lt_of_cell? W _ h1, World.block_lt_of_cell? W _ h2⟩
theorem Errs.below {W W' : World} {B : Nat} (h : Errs W) (hb : Below B W W') (h1 : 1 < B) (h2 : 2 < B) : Errs W' := by
  obtain ⟨⟨v, q1, q2⟩, u, q3, q4⟩ := h
  exact ⟨⟨v, (hb.cell (p := ⟨_, 0, none⟩) h1).trans q1, q2⟩, u, (hb.cell (p := ⟨_, 0, none⟩) h2).trans q3, q4⟩

theorem atoi_yes (w : World) (s : ByteArray) (hs : s.size < 4294967281) {v : Int} (h : Lib.atoiAll s.data.toList = .ok v) :
    Calls Tryd.prog 54 #[.string s] w fun e w' => e = .returned (.tuple #[.int .i64 v, .nilIface]) ∧ Below w.heap.size w w' := by
  refine (Tryd.strconv_Atoi_ok s (by omega) v h w).mono ?_
  rintro e w' ⟨rfl, rfl | ⟨t, rfl⟩⟩
  · exact ⟨rfl, Below.refl _ _⟩
  · exact ⟨rfl, Lib.bytesWorld_below _ _ _⟩
theorem atoi_no (w : World) (s : ByteArray) (hs : s.size < 4294967281) (he : Errs w) (h : ∀ v, Lib.atoiAll s.data.toList ≠ .ok v) :
    Calls Tryd.prog 54 #[.string s] w fun e w' => ∃ n te pe, e = .returned (.tuple #[.int .i64 n, .iface te pe]) ∧ Below w.heap.size w w' := by
  obtain ⟨⟨v, q1, q2⟩, u, q3, q4⟩ := he
  cases hx : Lib.atoiAll s.data.toList
  · exact absurd hx (h _)
  · refine (Any.strconv_Atoi_syntax Tryd.laysC172 s (by omega) hx v w q1 q2).mono ?_
    rintro e w' ⟨N, rfl, _, _, hb⟩
    exact ⟨_, _, _, rfl, hb⟩
  · refine (Any.strconv_Atoi_range Tryd.laysC172 s (by omega) hx u w q3 q4).mono ?_
    rintro e w' ⟨N, rfl, _, _, hb⟩
    exact ⟨_, _, _, rfl, hb⟩
theorem cutS (w : World) (s sep : ByteArray) (hs : s.size < 4294967281) (hm : Glb w) :
    Calls Tryd.prog 52 #[.string s, .string sep] w fun e w' => ∃ a b c, (a.data.toList, b.data.toList, c) = Lib.cut s.data.toList sep.data.toList ∧ a.size ≤ s.size ∧ b.size ≤ s.size ∧ e = .returned (.tuple #[.string a, .string b, .bool c]) ∧ ∃ n, w' = w.drewN n := by
  obtain ⟨m, hm⟩ := hm
  refine (Tryd.strings_Cut s sep m w hs hm).mono ?_
  rintro e w' ⟨rfl, h⟩
  refine ⟨⟨(Lib.cut s.data.toList sep.data.toList).1.toArray⟩, ⟨(Lib.cut s.data.toList sep.data.toList).2.1.toArray⟩, (Lib.cut s.data.toList sep.data.toList).2.2, rfl, ?_, ?_, rfl, h⟩
  · show (Lib.cut s.data.toList sep.data.toList).1.length ≤ s.size
    unfold Lib.cut
    split
    · simp; omega
    · simp
  · show (Lib.cut s.data.toList sep.data.toList).2.1.length ≤ s.size
    unfold Lib.cut
    split
    · simp
    · simp

theorem Blk.six {w : World} {g : Nat} {t : TypeId} {a b c d e f : Value} (h : Blk w g t #[a, b, c, d, e, f]) : (w.cell? ⟨g, 0, none⟩ = some a ∧ w.cell? ⟨g, 1, none⟩ = some b ∧ w.cell? ⟨g, 2, none⟩ = some c ∧ w.cell? ⟨g, 3, none⟩ = some d ∧ w.cell? ⟨g, 4, none⟩ = some e ∧ w.cell? ⟨g, 5, none⟩ = some f) ∧
    w.frozen? ⟨g, 0, none⟩ = false ∧ w.frozen? ⟨g, 1, none⟩ = false ∧ w.frozen? ⟨g, 2, none⟩ = false ∧ w.frozen? ⟨g, 3, none⟩ = false ∧ w.frozen? ⟨g, 4, none⟩ = false ∧ w.frozen? ⟨g, 5, none⟩ = false :=
  ⟨⟨h.cell 0, h.cell 1, h.cell 2, h.cell 3, h.cell 4, h.cell 5⟩, h.frozen 0, h.frozen 1, h.frozen 2, h.frozen 3, h.frozen 4, h.frozen 5⟩
def setSix (w : World) (g : Nat) (a b c d e f : Value) : World :=
  (((((w.setCell ⟨g, 0, none⟩ a).setCell ⟨g, 1, none⟩ b).setCell ⟨g, 2, none⟩ c).setCell ⟨g, 3, none⟩ d).setCell ⟨g, 4, none⟩ e).setCell ⟨g, 5, none⟩ f
theorem setSix_blk {w : World} {g : Nat} {t : TypeId} {a0 b0 c0 d0 e0 f0 : Value} (h : Blk w g t #[a0, b0, c0, d0, e0, f0]) (a b c d e f : Value) : Blk (setSix w g a b c d e f) g t #[a, b, c, d, e, f] := by
  have := (((((h.set_ 0 a).set_ 1 b).set_ 2 c).set_ 3 d).set_ 4 e).set_ 5 f
  simpa [setSix] using this
theorem setSix_below {w w' : World} {g B : Nat} (h : Below B w w') (hg : B ≤ g) (a b c d e f : Value) : Below B w (setSix w' g a b c d e f) :=
  (((((h.setCell (p := ⟨g, 0, none⟩) hg a).setCell (p := ⟨g, 1, none⟩) hg b).setCell (p := ⟨g, 2, none⟩) hg c).setCell (p := ⟨g, 3, none⟩) hg d).setCell (p := ⟨g, 4, none⟩) hg e).setCell (p := ⟨g, 5, none⟩) hg f
theorem setSix_grown (w : World) (g : Nat) (a b c d e f : Value) : w.grownBy (setSix w g a b c d e f) (some g) :=
  grown_trans (grown_trans (grown_trans (grown_trans (grown_trans (grown_set w _ _ a) (grown_set _ _ _ b)) (grown_set _ _ _ c)) (grown_set _ _ _ d)) (grown_set _ _ _ e)) (grown_set _ _ _ f)

def ReadSays (w : World) (s : List UInt8) (e : Ending) (w' : World) : Prop :=
  match readLine s with
  | some x => ∃ v : ItmV, v.x = x ∧ e = .returned (.tuple #[v.val, .int .i64 0]) ∧ v.rd w' w'.heap.size ∧ x.step.fits ∧ Below w.heap.size w w'
  | none => e = .returned (.tuple #[ItmV.val ⟨⟨false, Stp.zero⟩, none, 0⟩, .int .i64 4]) ∧ Below w.heap.size w w'

/-- The words' numbers so far. -/
theorem atois_take : ∀ (ws : List (List UInt8)) (k : Nat) (l : List Int) (w : List UInt8), atois (ws.take k) = some l → ws[k]? = some w →
    (∀ v, Lib.atoiAll w = .ok v → atois (ws.take (k + 1)) = some (l ++ [v])) ∧ ((∀ v, Lib.atoiAll w ≠ .ok v) → atois ws = none)
  | [], k, l, w, _, h => by simp at h
  | x :: ws, 0, l, w, h1, h2 => by
    simp only [List.getElem?_cons_zero, Option.some.injEq] at h2
    subst h2
    simp only [List.take_zero, atois, Option.some.injEq] at h1
    subst h1
    refine ⟨fun v hv => ?_, fun hv => ?_⟩
    · simp [atois, hv]
    · rw [atois]
      cases hx : Lib.atoiAll x
      · exact absurd hx (hv _)
      · rfl
      · rfl
  | x :: ws, k + 1, l, w, h1, h2 => by
    simp only [List.getElem?_cons_succ] at h2
    rw [List.take_succ_cons, atois] at h1
    rw [List.take_succ_cons, atois, atois]
    cases hx : Lib.atoiAll x with
    | ok v0 =>
      rw [hx] at h1
      cases ht : atois (ws.take k) with
      | none => rw [ht] at h1; cases h1
      | some l0 =>
        rw [ht] at h1
        simp only [Option.some.injEq] at h1
        subst h1
        obtain ⟨g1, g2⟩ := atois_take ws k l0 w ht h2
        exact ⟨fun v hv => by rw [g1 v hv]; rfl, fun hv => by rw [g2 hv]⟩
    | _ => rw [hx] at h1; cases h1

/-- What stands while the item is put together. -/
structure RInv (w w3 : World) (A : Option Addr) (n cap : Nat) (l : List Int) (w' : World) : Prop where
  b : Blk w' w.heap.size 57 #[.bool false, .int .u8 0, .int .u8 0, .int .i64 0, .slice none 0 0, .int .i64 0]
  o : Owns w' w3.heap.size 3 1 A n cap (intsV l)
  bel : Below w3.heap.size w3 w'
theorem RInv.below {w w3 w' w'' : World} {A : Option Addr} {n cap : Nat} {l : List Int} (h : RInv w w3 A n cap l w') (hb : Below w'.heap.size w' w'') : RInv w w3 A n cap l w'' :=
  ⟨h.b.below hb h.b.lt, h.o.below hb (Nat.le_refl _), h.bel.trans (hb.mono h.bel.size)⟩
/-- What Clone tells here. -/
def readSpec1 (w3 : World) (ns : List Int) : FreeSpec where
  rho v := ∃ A cap, v = .slice A ns.length cap
  R v w' := ∃ A cap, v = .slice A ns.length cap ∧ Reads w' w'.heap.size 1 A ns.length (intsV ns) ∧ ∀ b, blockOf A = some b → w3.heap.size ≤ b
  born v := match v with | .slice A _ _ => blockOf A | _ => none
/-- .. and the new item's box. -/
def readSpec2 (w3 : World) : FreeSpec where
  rho v := ∃ g, v = .pointer (some ⟨g, 0, none⟩)
  R v w' := ∃ g, v = .pointer (some ⟨g, 0, none⟩) ∧ Blk w' g 57 #[.bool false, .int .u8 0, .int .u8 0, .int .i64 0, .slice none 0 0, .int .i64 0] ∧ w3.heap.size ≤ g
  born v := match v with | .pointer A => blockOf A | _ => none
theorem readSpec1_stays (w3 : World) (ns : List Int) (v : Value) : Stays ((readSpec1 w3 ns).R v) := fun w1 w2 ⟨A, cap, e, h, hn⟩ hb => ⟨A, cap, e, (h.below hb).more hb.size, hn⟩
theorem readSpec2_stays (w3 : World) (v : Value) : Stays ((readSpec2 w3).R v) := fun w1 w2 ⟨g, e, h, hz⟩ hb => ⟨g, e, h.below hb h.lt, hz⟩
theorem rd_of_row {w : World} {base n : Nat} {v : Value} {xs : List Value} {e : TypeId} (h : w.ownsRow base e 1 v n xs) : ∃ A cap, v = .slice A n cap ∧ Reads w w.heap.size 1 A n xs ∧ ∀ g, blockOf A = some g → base ≤ g ∧ g < w.heap.size := by
  obtain ⟨hl, ⟨rfl, rfl⟩ | ⟨g, cap, cur, rfl, hg, hb, hn, _, hc, hx⟩⟩ := h
  · exact ⟨none, 0, rfl, ⟨by simpa using hl, fun h => absurd h (by omega)⟩, fun g h => by cases h⟩
  · have hlt : g < w.heap.size := by
      rcases Nat.lt_or_ge g w.heap.size with h | h
      · exact h
      · rw [Array.getElem?_eq_none h] at hb; cases hb
    refine ⟨_, cap, rfl, ⟨by simpa using hl, fun _ => ⟨g, 0, rfl, hlt, fun j u hu => ?_⟩⟩, fun k hk => by cases hk; exact ⟨hg, hlt⟩⟩
    rw [Nat.zero_add, cell_of_row w g j cur e (0, 0) hb, ← hu, ← hx, List.getElem?_take]
    have hj := (List.getElem?_eq_some_iff.1 hu).1
    rw [if_pos (by omega)]
    simp

theorem atoi_i64 {l : List UInt8} {v : Int} (h : Lib.atoiAll l = .ok v) : isI64 v := by
  unfold Lib.atoiAll at h
  split at h
  · cases h
  · dsimp only at h
    split at h
    · cases h
    · cases h
    · split at h
      · cases h
      · split at h
        · cases h
        · injection h with h
          subst h
          unfold isI64
          split <;> omega
theorem atois_i64 : ∀ {ws : List (List UInt8)} {l : List Int}, atois ws = some l → ∀ n ∈ l, isI64 n
  | [], l, h => by cases h; simp
  | w :: ws, l, h => by
    rw [atois] at h
    split at h
    · rename_i v l0 hv hl
      simp only [Option.some.injEq] at h
      subst h
      intro n hn
      rcases List.mem_cons.1 hn with rfl | hn
      · exact atoi_i64 hv
      · exact atois_i64 hl n hn
    · cases h
theorem u8_wrap (n : Int) : IntKind.u8.wrap n = (u8N n : Int) ∧ u8N n < 256 := by
  unfold u8N
  rw [IntKind.wrap_u8]
  omega
theorem four_of_len {l : List Int} {n : Nat} (h : l.length = n) (h4 : 4 ≤ n) : ∃ x0 x1 x2 x3 ns, l = x0 :: x1 :: x2 :: x3 :: ns ∧ n = ns.length + 4 := by
  match l, h with
  | x0 :: x1 :: x2 :: x3 :: ns, h => exact ⟨x0, x1, x2, x3, ns, rfl, h.symm⟩
  | [], h => simp at h; omega
  | [_], h => simp at h; omega
  | [_, _], h => simp at h; omega
  | [_, _, _], h => simp at h; omega

theorem split1_words {c : UInt8} {s : ByteArray} {ws : List ByteArray} (h : ws.map (·.data.toList) = split1 c s.data.toList) : ws.length ≤ s.size + 1 ∧ 0 < ws.length ∧ ∀ x ∈ ws, x.size ≤ s.size := by
  have hl := congrArg List.length h
  have h1 := split1_len c s.data.toList
  have h2 := split1_ne c s.data.toList
  rw [List.length_map] at hl
  have e : s.data.toList.length = s.size := by simp
  refine ⟨by omega, ?_, fun x hx => ?_⟩
  · have := List.length_pos_iff.2 h2; omega
  · have := split1_mem (c := c) (s := s.data.toList) (w := x.data.toList) (by rw [← h]; exact List.mem_map_of_mem hx)
    simpa using this

set_option maxRecDepth 100000 in
set_option maxHeartbeats 4000000 in
theorem logRead_any (w : World) (s : ByteArray) (hs : s.size < 4294967000) (hg : Glb w) (ht : Tab w) (he : Errs w) : Calls Tryd.prog 27 #[.string s] w (ReadSays w s.data.toList) := by
  have htl := ht.lt
  have hgl := hg.lt
  obtain ⟨hel1, hel2⟩ := he.lt
  have hb0 : Below w.heap.size w (w.alloc (.cells #[.bool false, .int .u8 0, .int .u8 0, .int .i64 0, .slice none 0 0, .int .i64 0] 57)) := (Below.refl _ _).alloc (Nat.le_refl _) _
  go_enter Tryd.func27, Tryd.ntmps27
  go_wp2_with fail
  refine (logShow_any _ ⟨⟨true, Stp.zero⟩, none, 0⟩ ⟨rfl, fun h => absurd h (by simp [Stp.zero])⟩ (by simp [Stp.fits, Stp.zero, isI64, maxLen]) (ht.below hb0 htl)).mono ?_
  rw [show showItm ⟨true, Stp.zero⟩ = [109, 97, 114, 107] from rfl]
  rintro e w1 ⟨rfl, hb1⟩
  have bk1 := (Blk.new_ w 57 #[.bool false, .int .u8 0, .int .u8 0, .int .i64 0, .slice none 0 0, .int .i64 0]).below hb1 (by simp)
  have hbw1 := hb0.trans (hb1.mono (by simp))
  have hz1 : w.heap.size < w1.heap.size := bk1.lt
  clear hb1 hb0
  by_cases hs0 : s.data.toList = [109, 97, 114, 107]
  · obtain ⟨⟨q0, q1, q2, q3, q4, q5⟩, p0, p1, p2, p3, p4, p5⟩ := bk1.six
    have e1 : (s.toList == [109, 97, 114, 107]) = true := by rw [ByteArray.toList_eq, hs0]; rfl
    have HP : Hid (readLine s.data.toList = some ⟨true, Stp.zero⟩) := by
      show readLine _ = _
      unfold readLine
      rw [if_pos hs0]
    clear hs0
    go_wp2
    have hb := setSix_blk bk1 (.bool true) (.int .u8 0) (.int .u8 0) (.int .i64 0) (.slice none 0 0) (.int .i64 0)
    unfold setSix at hb
    obtain ⟨⟨z0, z1, z2, z3, z4, z5⟩, _⟩ := hb.six
    refine bodyPost_ret (v := .tuple #[.agg #[.bool true, .int .u8 0, .int .u8 0, .int .i64 0, .slice none 0 0, .int .i64 0], .int .i64 0]) (by simp [results, Tryd.results27, go_sem, z0, z1, z2, z3, z4, z5]) rfl ?_
    unfold ReadSays
    rw [HP.out]
    exact ⟨⟨⟨true, Stp.zero⟩, none, 0⟩, rfl, rfl, ⟨rfl, fun h => absurd h (by simp [Stp.zero])⟩, by simp [Stp.fits, Stp.zero, isI64, maxLen], setSix_below hbw1 (Nat.le_refl _) (.bool true) (.int .u8 0) (.int .u8 0) (.int .i64 0) (.slice none 0 0) (.int .i64 0)⟩
  · obtain ⟨⟨q0, q1, q2, q3, q4, q5⟩, p0, p1, p2, p3, p4, p5⟩ := bk1.six
    have e1 : (s.toList == [109, 97, 114, 107]) = false := by rw [ByteArray.toList_eq]; simpa using hs0
    have HS0 := Lib.hid hs0
    have hg1 := hg.below hbw1 hgl
    clear hs0 q0 q1 q2 q3 q4 q5 p0 p1 p2 p3 p4 p5
    go_wp2_with fail
    refine (cutS w1 s ⟨#[32]⟩ (by omega) hg1).mono ?_
    rintro e w2 ⟨a, b, c, hc1, ha1, hb1, rfl, n1, rfl⟩
    have HC1 := Lib.hid hc1
    clear hc1
    go_wp2_with fail
    refine (cutS (w1.drewN n1) b ⟨#[32, 64]⟩ (by omega) (hg1.keep rfl)).mono ?_
    rintro e w2 ⟨a2, b2, c2, hc2, ha2, hb2, rfl, n2, rfl⟩
    have HC2 := Lib.hid hc2
    clear hc2
    go_wp2_with fail
    refine (cutS (w1.drewN (n1 + n2)) a ⟨#[46]⟩ (by omega) (hg1.keep rfl)).mono ?_
    rintro e w2 ⟨a3, b3, c3, hc3, ha3, hb3, rfl, n3, rfl⟩
    have HC3 := Lib.hid hc3
    clear hc3
    go_wp2_with fail
    have hgA : Glb ((w1.drewN (n1 + n2 + n3)).alloc (.cells #[.string a3, .string b3, .string b2] 9)) := hg1.keep (Below.heap_alloc (w1.drewN (n1 + n2 + n3)) _ _ hg1.lt)
    refine (split_one _ a2 47 (by omega) hgA).mono ?_
    rintro e w2 ⟨ws, hws, rfl, rfl⟩
    obtain ⟨hw1, hw2, hw3⟩ := split1_words hws
    have HW := Lib.hid hws
    have HW3 := Lib.hid hw3
    have hown3 : Owns ((w1.drewN (n1 + n2 + n3)).alloc (.cells #[.string a3, .string b3, .string b2] 9)) w1.heap.size 9 1 (some ⟨w1.heap.size, 0, none⟩) 3 3 [.string a3, .string b3, .string b2] :=
      Owns.new_ (w1.drewN (n1 + n2 + n3)) 9 1 3 #[.string a3, .string b3, .string b2] rfl (by unfold maxLen; omega) (Nat.le_refl _)
    clear hws hw3
    have hsz : ((w1.drewN (n1 + n2 + n3)).alloc (.cells #[.string a3, .string b3, .string b2] 9)).heap.size = w1.heap.size + 1 := by simp
    have APP := fun (ops : Array Oper) (rest : List Oper) (o : Oper) (a : Act) (Q : Exit → Act → World → Prop) (hgd : o.guard = none) (ho : o.op = .call { callee := .builtin .append, args := #[.tmp 46, .tmp 48], argTypes := #[65, 65] }) (e1 : a.eval (.tmp 46) = .slice (some ⟨w1.heap.size, 0, none⟩) 3 3) (e2 : a.eval (.tmp 48) = .slice (some ⟨((w1.drewN (n1 + n2 + n3)).alloc (.cells #[.string a3, .string b3, .string b2] 9)).heap.size, 0, none⟩) ws.length ws.length) =>
      wpList_app_new (P := Tryd.prog) (ops := ops) (rest := rest) (o := o) (a := a) (Q := Q) ((w1.drewN (n1 + n2 + n3)).alloc (.cells #[.string a3, .string b3, .string b2] 9)) (ws.map Value.string) 9 hgd (.tmp 46) (.tmp 48) 65 ho 9 (.string ⟨#[]⟩) 1 16 Tryd.underlying65 infoStr rfl w1.heap.size (some ⟨w1.heap.size, 0, none⟩) 3 3 [.string a3, .string b3, .string b2] _ ws.length ws.length e1 e2 hown3 rfl (by simp) (by intro u hu; obtain ⟨y, _, rfl⟩ := List.mem_map.1 hu; rfl) (by omega) (by omega) (by omega)
    clear hown3
    go_wp2_with (at_builtin; (refine APP _ _ _ _ _ rfl rfl rfl ?_ ?_); (focus (simp [Act.eval, go_sem])); intro A3 cap3 w3 hown4 hg3 hA3 hA3n)
    have hb3' : Below w.heap.size w w3 :=
      Below.grown (Below.alloc (show Below w.heap.size w (w1.drewN (n1 + n2 + n3)) from hbw1.trans ⟨rfl, rfl, rfl, Nat.le_refl _, fun _ _ => rfl⟩) (by show _ ≤ w1.heap.size; omega) _) hg3 (by rw [hsz]; omega) (fun k hk => by simp [blockOf] at hk; omega)
    have bk3 : Blk w3 w.heap.size 57 #[.bool false, .int .u8 0, .int .u8 0, .int .i64 0, .slice none 0 0, .int .i64 0] := ((bk1.drewN (n1 + n2 + n3)).alloc _).grown hg3 (fun e => by simp [blockOf] at e; omega)
    obtain ⟨WS, hWS⟩ : ∃ WS : List ByteArray, WS = a3 :: b3 :: b2 :: ws := ⟨_, rfl⟩
    obtain ⟨nw, hnw⟩ : ∃ nw, 3 + ws.length = nw := ⟨_, rfl⟩
    have hrd3 : Reads w3 w3.heap.size 1 A3 nw (strVals WS) := by rw [hWS, ← hnw]; simpa [strVals] using hown4.rd
    have HWS : Hid (WS.map (·.data.toList) = words s.data.toList) := by
      show _ = _
      unfold words
      rw [← HC1.out]
      dsimp only
      rw [← HC2.out, ← HC3.out]
      dsimp only
      rw [← HW.out, hWS]
      simp
    have HSZ : Hid (∀ x ∈ WS, x.size < 4294967281) := by
      show ∀ x ∈ WS, x.size < 4294967281
      intro x hx
      rw [hWS] at hx
      simp only [List.mem_cons] at hx
      rcases hx with rfl | rfl | rfl | hx
      · omega
      · omega
      · omega
      · have := HW3.out x hx; omega
    have hwl : WS.length = nw := by rw [hWS, ← hnw]; simp; omega
    have he3 : Errs w3 := he.below hb3' hel1 hel2
    have HT := Lib.hid (ht.below hb3' htl)
    have hnw4 : 4 ≤ nw := by omega
    have hnwM : nw ≤ 4294967100 := by omega
    have hnwc : (3 : Int) + (ws.length : Int) = (nw : Int) := by omega
    rw [hnw, hnwc]
    have HT0 := Lib.hid ht
    have HTL : Hid (_ < w.heap.size) := htl
    clear hnwc hnw hWS HW HW3 HC1 HC2 HC3 hown4 hg3 hA3 hA3n APP hsz hgA hg1 hbw1 hw1 hw2 ha1 hb1 ha2 hb2 ha3 hb3 hz1 hg ht he htl hgl hel1 hel2 bk1
    have hz3 := bk3.lt
    go_wp2
    go_loopw [14, 52] (fun op i wr => ∃ (k : Nat) (A : Option Addr) (cap : Nat) (l : List Int), i = .int .i64 k ∧ op = .slice A k cap ∧ k ≤ nw ∧ Hid (atois ((WS.map (·.data.toList)).take k) = some l) ∧ l.length = k ∧ Owns wr w3.heap.size 3 1 A k cap (intsV l) ∧ Below w3.heap.size w3 wr) (fun _ i _ => nw - (intOf i).toNat)
    case atStart => exact ⟨0, none, 0, [], rfl, rfl, Nat.zero_le _, rfl, rfl, Owns.nil_ _ _ _ _, Below.refl _ _⟩
    case round =>
      obtain ⟨k, A, cap, l, rfl, rfl, hk, HA, hl, hown, hb⟩ := hrel
      have hzr := hb.size
      by_cases hkn : k < nw
      · obtain ⟨g, off, rfl, hg1, c0⟩ := hrd3.str (k := k) (by omega)
        obtain ⟨x, hx⟩ : ∃ x, WS[k]? = some x := ⟨_, List.getElem?_eq_getElem (by omega)⟩
        have hxs := HSZ.out x (List.mem_of_getElem? hx)
        have e0 : wr.cell? ⟨g, off + k, none⟩ = some (.string x) := by
          rw [hb.cell (p := ⟨g, off + k, none⟩) hg1, c0]
          rw [List.getElem?_eq_getElem (by omega)] at hx
          simp only [Option.some.injEq] at hx
          rw [hx]
        have HAT := Lib.hid (atois_take (WS.map (·.data.toList)) k l x.data.toList HA.out (by rw [List.getElem?_map, hx]; rfl))
        have heR : Errs wr := he3.below hb (by have := he3.lt; omega) (by have := he3.lt; omega)
        clear c0 hx
        by_cases hv : ∃ v, Lib.atoiAll x.data.toList = .ok v
        · obtain ⟨v, hv⟩ := hv
          have HA2 := Lib.hid (HAT.out.1 v hv)
          have HV := Lib.hid hv
          clear hv HAT
          go_wp2_with fail
          refine (atoi_yes wr x hxs HV.out).mono ?_
          rintro e w5 ⟨rfl, hb5⟩
          have own5 := hown.below hb5 (Nat.le_refl _)
          have hz5 := hb5.size
          go_wp2_with (at_builtin; refine wpList_app_new w5 [.int .i64 v] 3 rfl (.tmp 64) (.tmp 66) 53 rfl 3 (.int .i64 0) 1 8 Tryd.underlying53 infoInt rfl w3.heap.size A k cap (intsV l) w5.heap.size 1 1 rfl rfl own5 rfl rfl ?_ ?_ ?_ ?_ ?_; (focus (intro u hu; simp at hu; subst hu; rfl)); (focus omega); (focus omega); (focus omega); intro A6 cap6 w6 hown6 hg6 hA6 hA6n)
          have hlt := own5.lt
          have HB6 := Lib.hid ((hb.trans (hb5.mono hzr)).grown hg6 (by omega) (fun g e => by have := (hlt _ e).1; omega))
          have HO6 := Lib.hid hown6
          clear hown6 hg6 hA6 hb5 own5
          go_roundw
          case rel => exact ⟨k + 1, A6, cap6, l ++ [v], by go_num, rfl, by omega, HA2, by simp [hl], by simpa [intsV] using HO6.out, HB6.out⟩
          case measure => simp [intOf]; omega
        · have HN : Hid (readLine s.data.toList = none) := by
            show readLine _ = none
            unfold readLine
            rw [if_neg HS0.out, ← HWS.out, HAT.out.2 fun v h => hv ⟨v, h⟩]
          have HNV := Lib.hid hv
          clear hv HAT
          go_wp2_with fail
          refine (atoi_no wr x hxs heR fun v h => HNV.out ⟨v, h⟩).mono ?_
          rintro e w5 ⟨n, te, pe, rfl, hb5⟩
          have hb35 := hb.trans (hb5.mono hzr)
          have bk5 := bk3.below hb35 hz3
          have HB5 := Lib.hid (hb3'.trans (hb35.mono (by omega)))
          obtain ⟨⟨q0, q1, q2, q3, q4, q5⟩, p0, p1, p2, p3, p4, p5⟩ := bk5.six
          clear hb5 hb35
          go_wp2
          have hbz := setSix_blk bk5 (.bool false) (.int .u8 0) (.int .u8 0) (.int .i64 0) (.slice none 0 0) (.int .i64 0)
          unfold setSix at hbz
          obtain ⟨⟨z0, z1, z2, z3, z4, z5⟩, _⟩ := hbz.six
          refine bodyPost_ret (v := .tuple #[.agg #[.bool false, .int .u8 0, .int .u8 0, .int .i64 0, .slice none 0 0, .int .i64 0], .int .i64 4]) (by simp [results, Tryd.results27, go_sem, z0, z1, z2, z3, z4, z5]) rfl ?_
          unfold ReadSays
          rw [HN.out]
          exact ⟨rfl, setSix_below HB5.out (Nat.le_refl _) (.bool false) (.int .u8 0) (.int .u8 0) (.int .i64 0) (.slice none 0 0) (.int .i64 0)⟩
      · obtain rfl : k = nw := by omega
        have HAL := Lib.hid (show atois (words s.data.toList) = some l by rw [← HWS.out, ← HA.out, List.take_of_length_le (by simp; omega)])
        clear HA HSZ hrd3 he3
        obtain ⟨x0, x1, x2, x3, ns, rfl, rfl⟩ := four_of_len hl hnw4
        obtain ⟨g, off, rfl, hgz, hgr⟩ := hown.form (by omega)
        have h0 : RInv w w3 (some ⟨g, off, none⟩) (ns.length + 4) cap (x0 :: x1 :: x2 :: x3 :: ns) wr := ⟨bk3.below hb hz3, hown, hb⟩
        have hcap : ns.length + 4 ≤ cap := hown.2.1
        have hrest : ∀ wx, RInv w w3 (some ⟨g, off, none⟩) (ns.length + 4) cap (x0 :: x1 :: x2 :: x3 :: ns) wx → ∀ j, j < ns.length → wx.cell? ⟨g, (if cap = 4 then off else off + 4) + j, none⟩ = some (.int .i64 (ns.getD j 0)) := fun wx hx j hj => by
          rw [if_neg (by omega), show off + 4 + j = off + (j + 4) from by omega, hx.o.cell (by omega)]
          simp only [intsV, List.map_cons, List.getElem?_cons_succ, List.getElem?_map, List.getD_eq_getElem?_getD, List.getElem?_eq_getElem hj, Option.map_some, Option.getD_some]
        have hfour : ∀ wx, RInv w w3 (some ⟨g, off, none⟩) (ns.length + 4) cap (x0 :: x1 :: x2 :: x3 :: ns) wx → wx.cell? ⟨g, off, none⟩ = some (.int .i64 x0) ∧ wx.cell? ⟨g, off + 1, none⟩ = some (.int .i64 x1) ∧ wx.cell? ⟨g, off + 2, none⟩ = some (.int .i64 x2) ∧ wx.cell? ⟨g, off + 3, none⟩ = some (.int .i64 x3) := fun wx hx =>
          ⟨hx.o.cell (j := 0) (by omega), hx.o.cell (j := 1) (by omega), hx.o.cell (j := 2) (by omega), hx.o.cell (j := 3) (by omega)⟩
        clear hown bk3 hb hk hkn hl
        go_wp2
        have p0 : (0 : Int) < (ns.length : Int) + 4 := by omega
        have p1 : (1 : Int) < (ns.length : Int) + 4 := by omega
        have p2 : (2 : Int) < (ns.length : Int) + 4 := by omega
        have p3 : (3 : Int) < (ns.length : Int) + 4 := by omega
        refine region_free_tail (RInv w w3 (some ⟨g, off, none⟩) (ns.length + 4) cap (x0 :: x1 :: x2 :: x3 :: ns)) (fun | 16 => some (readSpec1 w3 ns) | 19 => some (readSpec2 w3) | _ => none) 20 [20]
          (by kernel_rfl) (by decide +kernel) (by decide +kernel) rfl (by decide +kernel) rfl ?hS ?hCs (h0.below (Below.refl _ _).drew) ?h
        case hS =>
          intro k s hs
          split at hs <;> cases hs
          · exact ⟨⟨_, none, 0, rfl⟩, readSpec1_stays w3 ns⟩
          · exact ⟨⟨_, 0, rfl⟩, readSpec2_stays w3⟩
        case hCs => exact fun w1 w2 h hb => h.below hb
        simp only [List.take_succ_cons, List.take_zero, idx, Nat.reduceAdd]
        iterate 15
          refine w_pure (by rfl) rfl ?_
          apply Exists.intro
          refine And.intro (fun w4 hC hF => ?_) ?_
          (focus (obtain ⟨m0, m1, m2, m3⟩ := hfour w4 hC; unfold gives; go_simp; try with_reducible rfl))
          simp only [Act.put, List.setIfInBounds_toArray, List.set_cons_zero, List.set_cons_succ]
        refine w_pure (by rfl) rfl ⟨.slice (some ⟨g, if cap = 4 then off else off + 4, none⟩) ns.length (cap - 4), fun w4 hC hF => ?_, ?_⟩
        · unfold gives
          by_cases hc4 : cap = 4
          · subst hc4
            obtain hns : ns.length = 0 := by omega
            rw [hns]
            go_simp
          · rw [if_neg hc4]
            have q1 : (4 : Int) ≤ (ns.length : Int) + 4 := by omega
            go_simp
        simp only [Act.put, List.setIfInBounds_toArray, List.set_cons_zero, List.set_cons_succ]
        refine w_free (by rfl) rfl (fun w4 hC hF hG => ?_) ?_
        · unfold does
          go_simp
          refine Calls.mono (Tryd.slices_Clone_int g _ ns.length (cap - 4) ns w4 (Nat.le_refl _) (by omega) (hrest w4 hC)) ?_
          rintro e w5 ⟨v', rfl, hrow, _, hb5⟩
          obtain ⟨A', c', rfl, hrd', hlt'⟩ := rd_of_row hrow
          exact ⟨_, rfl, ⟨A', c', rfl⟩, ⟨A', c', rfl, by simpa [intsV] using hrd', fun b hb => Nat.le_trans hC.bel.size (hlt' b hb).1⟩, hlt', hb5⟩
        rintro v ⟨A', cap', rfl⟩
        simp only [Act.put, List.setIfInBounds_toArray, List.set_cons_zero, List.set_cons_succ]
        iterate 2
          refine w_pure (by rfl) rfl ?_
          apply Exists.intro
          refine And.intro (fun w4 hC hF => ?_) ?_
          (focus (unfold gives; go_simp; try with_reducible rfl))
          simp only [Act.put, List.setIfInBounds_toArray, List.set_cons_zero, List.set_cons_succ]
        refine w_free (by rfl) rfl (fun w4 hC hF hG => ?_) ?_
        · unfold does
          go_simp
          exact ⟨⟨_, rfl⟩, ⟨_, rfl, Blk.new_ _ _ _, hC.bel.size⟩, fun g hg => by cases hg; simp, (Below.refl _ _).alloc (Nat.le_refl _) _⟩
        rintro v ⟨gv, rfl⟩
        simp only [Act.put, List.setIfInBounds_toArray, List.set_cons_zero, List.set_cons_succ]
        refine w_end (fun w4 hC hF hG => ?_)
        have h2 : (readSpec1 w3 ns).R (.slice A' ns.length cap') w4 := hF 16
        have h8 : (readSpec2 w3).R (.pointer (some ⟨gv, 0, none⟩)) w4 := hF 19
        have hne : blockOf A' ≠ some gv := fun e => hG 16 19 (by decide) gv e rfl
        clear hF hG
        obtain ⟨_, _, e, hrd, hfar⟩ := h2
        cases e
        obtain ⟨_, e, hblk, hgv⟩ := h8
        cases e
        rw [(u8_wrap x0).1, (u8_wrap x1).1]
        obtain ⟨⟨q0, q1, q2, q3, q4, q5⟩, y0, y1, y2, y3, y4, y5⟩ := hblk.six
        have hbs := setSix_blk hblk (.bool false) (.int .u8 (u8N x0)) (.int .u8 (u8N x1)) (.int .i64 x3) (.slice A' ns.length cap') (.int .i64 x2)
        have hb4 := hC.bel
        have hbw4 : Below w.heap.size w w4 := hb3'.trans (hb4.mono (by omega))
        have hbk4 := hC.b
        have hrd4 : Reads (setSix w4 gv (.bool false) (.int .u8 (u8N x0)) (.int .u8 (u8N x1)) (.int .i64 x3) (.slice A' ns.length cap') (.int .i64 x2)) w4.heap.size 1 A' ns.length (intsV ns) :=
          Reads.apart hrd (setSix_grown w4 gv _ _ _ _ _ _) (Nat.le_refl _) (fun _ b e e' => by cases e; exact hne e')
        have HB4 := Lib.hid hbw4
        have HFAR : Hid (∀ b, blockOf A' = some b → w.heap.size < b) := fun b hb => Nat.lt_of_lt_of_le hz3 (hfar b hb)
        have HBK4 := Lib.hid hbk4
        have HR4 := Lib.hid hrd4
        have HBS := Lib.hid hbs
        have HG4 : Hid (w.heap.size < gv) := show w.heap.size < gv from by omega
        have HI : Hid (∀ n ∈ x0 :: x1 :: x2 :: x3 :: ns, isI64 n) := atois_i64 HAL.out
        generalize (if cap = 4 then off else off + 4) = off2
        have hnsM : ns.length ≤ 4294967096 := by omega
        clear hfar hrest hfour h0 p0 p1 p2 p3 hrd hne hbs hb4 hbw4 hbk4 hrd4 hC hblk hcap hgr hgz hwl hnw4 hnwM hzr hb3'
        have HB5 := Lib.hid (setSix_below HB4.out (Nat.le_of_lt HG4.out) (.bool false) (.int .u8 (u8N x0)) (.int .u8 (u8N x1)) (.int .i64 x3) (.slice A' ns.length cap') (.int .i64 x2))
        have HBK5 := Lib.hid (HBK4.out.grown (setSix_grown w4 gv (.bool false) (.int .u8 (u8N x0)) (.int .u8 (u8N x1)) (.int .i64 x3) (.slice A' ns.length cap') (.int .i64 x2)) (fun e => by cases e; exact Nat.lt_irrefl _ HG4.out))
        have HZ5 := Lib.hid (setSix_grown w4 gv (.bool false) (.int .u8 (u8N x0)) (.int .u8 (u8N x1)) (.int .i64 x3) (.slice A' ns.length cap') (.int .i64 x2)).size
        unfold setSix at HB5 HBK5 HZ5 HR4 HBS
        obtain ⟨un, hun⟩ : ∃ un, ns.length = un := ⟨_, rfl⟩
        rw [hun]
        simp only [List.drop_succ_cons, List.drop_zero]
        go_wp2_with fail
        rw [← hun]
        generalize (((((w4.setCell ⟨gv, 0, none⟩ (.bool false)).setCell ⟨gv, 1, none⟩ (.int .u8 (u8N x0))).setCell ⟨gv, 2, none⟩ (.int .u8 (u8N x1))).setCell ⟨gv, 3, none⟩ (.int .i64 x3)).setCell ⟨gv, 4, none⟩ (.slice A' ns.length cap')).setCell ⟨gv, 5, none⟩ (.int .i64 x2) = w5 at HB5 HBK5 HZ5 HR4 HBS ⊢
        have hrd5 := HR4.out.more HZ5.out
        have hI := HI.out
        refine (logShow_any w5 ⟨⟨false, ⟨u8N x0, u8N x1, x3, ns, x2⟩⟩, A', cap'⟩ hrd5 ⟨(u8_wrap x0).2, (u8_wrap x1).2, hI _ (by simp), hI _ (by simp), by unfold maxLen; dsimp only; omega, fun n hn => hI n (by simp; exact .inr (.inr (.inr (.inr hn))))⟩ (HT0.out.below HB5.out HTL.out)).mono ?_
        rintro e w6 ⟨rfl, hb6⟩
        have HNM : Hid (ns.length ≤ maxLen) := by show _ ≤ _; unfold maxLen; omega
        clear hI hrd5 hnsM
        have bk6 := HBS.out.below hb6 HBS.out.lt
        have br6 := HBK5.out.below hb6 HBK5.out.lt
        have HR6 := Lib.hid ((HR4.out.more HZ5.out).below hb6)
        have HB6 := Lib.hid (HB5.out.trans (hb6.mono HB5.out.size))
        have hz56 := hb6.size
        obtain ⟨⟨u0, u1, u2, u3, u4, u5⟩, _⟩ := bk6.six
        obtain ⟨⟨q0, q1, q2, q3, q4, q5⟩, p0, p1, p2, p3, p4, p5⟩ := br6.six
        clear hb6 y0 y1 y2 y3 y4 y5
        rw [hun] at u4 ⊢
        by_cases heq : showItm ⟨false, ⟨u8N x0, u8N x1, x3, ns, x2⟩⟩ = s.data.toList
        · have ec : (showItm ⟨false, ⟨u8N x0, u8N x1, x3, ns, x2⟩⟩ == s.toList) = true := by rw [ByteArray.toList_eq, ← heq]; simp
          have HP : Hid (readLine s.data.toList = some ⟨false, ⟨u8N x0, u8N x1, x3, ns, x2⟩⟩) := by
            show readLine _ = _
            unfold readLine
            rw [if_neg HS0.out, HAL.out]
            exact if_pos heq
          clear heq
          go_wp2
          have hb := setSix_blk br6 (.bool false) (.int .u8 (u8N x0)) (.int .u8 (u8N x1)) (.int .i64 x3) (.slice A' un cap') (.int .i64 x2)
          have hrd7 : Reads _ _ 1 A' ns.length (intsV ns) := Reads.apart HR6.out (setSix_grown w6 w.heap.size (.bool false) (.int .u8 (u8N x0)) (.int .u8 (u8N x1)) (.int .i64 x3) (.slice A' un cap') (.int .i64 x2)) hz56 (fun _ b e e' => by cases e; exact Nat.lt_irrefl _ (HFAR.out _ e'))
          have hrd8 := hrd7.more (Nat.le_trans hz56 (setSix_grown w6 w.heap.size (.bool false) (.int .u8 (u8N x0)) (.int .u8 (u8N x1)) (.int .i64 x3) (.slice A' un cap') (.int .i64 x2)).size)
          have HR8 := Lib.hid hrd8
          clear hrd7 hrd8
          unfold setSix at hb HR8
          obtain ⟨⟨z0, z1, z2, z3, z4, z5⟩, _⟩ := hb.six
          refine bodyPost_ret (v := .tuple #[.agg #[.bool false, .int .u8 (u8N x0), .int .u8 (u8N x1), .int .i64 x3, .slice A' un cap', .int .i64 x2], .int .i64 0]) (by simp [results, Tryd.results27, go_sem, z0, z1, z2, z3, z4, z5]) rfl ?_
          unfold ReadSays
          rw [HP.out, ← hun]
          rw [← hun] at HR8
          refine ⟨⟨⟨false, ⟨u8N x0, u8N x1, x3, ns, x2⟩⟩, A', cap'⟩, rfl, rfl, HR8.out, ⟨(u8_wrap x0).2, (u8_wrap x1).2, HI.out _ (by simp), HI.out _ (by simp), HNM.out, fun n hn => HI.out n (by simp; exact .inr (.inr (.inr (.inr hn))))⟩, ?_⟩
          exact setSix_below HB6.out (Nat.le_refl _) (.bool false) (.int .u8 (u8N x0)) (.int .u8 (u8N x1)) (.int .i64 x3) (.slice A' ns.length cap') (.int .i64 x2)
        · have ec : (showItm ⟨false, ⟨u8N x0, u8N x1, x3, ns, x2⟩⟩ == s.toList) = false := by rw [ByteArray.toList_eq]; simpa using heq
          have HN : Hid (readLine s.data.toList = none) := by
            show readLine _ = _
            unfold readLine
            rw [if_neg HS0.out, HAL.out]
            exact if_neg heq
          clear heq
          go_wp2
          have hbz := setSix_blk br6 (.bool false) (.int .u8 0) (.int .u8 0) (.int .i64 0) (.slice none 0 0) (.int .i64 0)
          unfold setSix at hbz
          obtain ⟨⟨z0, z1, z2, z3, z4, z5⟩, _⟩ := hbz.six
          refine bodyPost_ret (v := .tuple #[.agg #[.bool false, .int .u8 0, .int .u8 0, .int .i64 0, .slice none 0 0, .int .i64 0], .int .i64 4]) (by simp [results, Tryd.results27, go_sem, z0, z1, z2, z3, z4, z5]) rfl ?_
          unfold ReadSays
          rw [HN.out]
          exact ⟨rfl, setSix_below HB6.out (Nat.le_refl _) (.bool false) (.int .u8 0) (.int .u8 0) (.int .i64 0) (.slice none 0 0) (.int .i64 0)⟩
end Go.Proofs.YtnmnbefbadhkgaaDoor
