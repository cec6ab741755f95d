/-
  WALKS: strings.Cut and strings.Split at one byte; span.lines: its iterator's contract.
-/
import Derived.Test.YtnmnbefbadhkgaaDoorRange
import Derived.Test.YtnmnbefbadhkgaaDoorText
import Derived.Test.YtnmnbefbadhkgaaDoorShelf
import Derived.Test.YtnmnbefbadhkgaaDoorProg
import Derived.WalkKit
import Derived.WalkSpells
import Derived.Outline
namespace Go.Proofs.YtnmnbefbadhkgaaDoor
open Go Go.RowKit
attribute [local go_sem] Oper.semAt_some

/-- The library's own limit for short texts is a number. -/
def Glb (W : World) : Prop := ∃ m, W.cell? ⟨0, 0, none⟩ = some (.int .i64 m)
theorem Glb.lt {W : World} (h : Glb W) : 0 < W.heap.size := by obtain ⟨m, hm⟩ := h; exact World.block_lt_of_cell? W _ hm
theorem Glb.keep {W W' : World} (h : Glb W) (hk : W'.heap[0]? = W.heap[0]?) : Glb W' := by
  obtain ⟨m, hm⟩ := h
  exact ⟨m, (World.cell?_of_block hk).trans hm⟩
theorem Glb.below {W W' : World} {B : Nat} (h : Glb W) (hb : Below B W W') (hB : 0 < B) : Glb W' := h.keep (hb.block _ hB)

/-- strings.Cut at a byte that is there. -/
theorem cut_hit (w : World) (s : ByteArray) (c : UInt8) (a r : List UInt8) (hs : s.size < 4294967281) (hm : Glb w) (hc : cut1 c s.data.toList = some (a, r)) :
    Calls Tryd.prog 52 #[.string s, .string ⟨#[c]⟩] w fun e w' => e = .returned (.tuple #[.string ⟨a.toArray⟩, .string ⟨r.toArray⟩, .bool true]) ∧ ∃ n, w' = w.drewN n := by
  obtain ⟨m, hm⟩ := hm
  refine (Tryd.strings_Cut s ⟨#[c]⟩ m w hs hm).mono ?_
  rintro e w' ⟨rfl, h⟩
  refine ⟨?_, h⟩
  rw [show (⟨#[c]⟩ : ByteArray).data.toList = [c] from rfl, cut_one, hc]
theorem cut_miss (w : World) (s : ByteArray) (c : UInt8) (hs : s.size < 4294967281) (hm : Glb w) (hc : cut1 c s.data.toList = none) :
    Calls Tryd.prog 52 #[.string s, .string ⟨#[c]⟩] w fun e w' => e = .returned (.tuple #[.string s, .string ⟨#[]⟩, .bool false]) ∧ ∃ n, w' = w.drewN n := by
  obtain ⟨m, hm⟩ := hm
  refine (Tryd.strings_Cut s ⟨#[c]⟩ m w hs hm).mono ?_
  rintro e w' ⟨rfl, h⟩
  refine ⟨?_, h⟩
  rw [show (⟨#[c]⟩ : ByteArray).data.toList = [c] from rfl, cut_one, hc]
/-- strings.Split at a byte. -/
theorem split_one (w : World) (s : ByteArray) (c : UInt8) (hs : s.size < 4294967281) (hm : Glb w) :
    Calls Tryd.prog 53 #[.string s, .string ⟨#[c]⟩] w fun e w' => ∃ ws : List ByteArray, ws.map (·.data.toList) = split1 c s.data.toList ∧ e = .returned (.slice (some ⟨w.heap.size, 0, none⟩) ws.length ws.length) ∧ w' = w.alloc (.cells (ws.map Value.string).toArray 9) := by
  obtain ⟨m, hm⟩ := hm
  refine (Tryd.strings_Split s ⟨#[c]⟩ m w hs hm (Nat.le_refl _)).mono ?_
  rintro e w' ⟨rfl, rfl⟩
  have hd := Lib.splitB_data ⟨#[c]⟩ 0 (Lib.countB s ⟨#[c]⟩) s
  have hl := congrArg List.length hd
  refine ⟨Lib.splitB ⟨#[c]⟩ 0 (Lib.countB s ⟨#[c]⟩) s, ?_, ?_, rfl⟩
  · rw [hd]
    exact splitK_one c s.data.toList.length _ (Nat.le_refl _)
  · rw [Lib.splitB_all ⟨#[c]⟩ (Nat.le_refl _) 0 _ s rfl]

theorem grown_drewN (w : World) (n : Nat) (row : Option Nat) : w.grownBy (w.drewN n) row := ⟨rfl, rfl, rfl, Nat.le_refl _, fun _ _ _ => rfl⟩
theorem grown_trans {a b c : World} {row : Option Nat} (h : a.grownBy b row) (k : b.grownBy c row) : a.grownBy c row :=
  ⟨k.os.trans h.os, k.tape.trans h.tape, k.output.trans h.output, Nat.le_trans h.size k.size, fun i hi hr => (k.block i (Nat.lt_of_lt_of_le hi h.size) hr).trans (h.block i hi hr)⟩
/-- What a round keeps: the iterator's own variable, and the library's limit. -/
def Kp1 (B : Nat) (A A' : World) : Prop := A.heap.size ≤ A'.heap.size ∧ ∀ k, k = B ∨ k = 0 → k < A.heap.size → A'.heap[k]? = A.heap[k]?
theorem Kp1.trans {B : Nat} {X Y Z : World} (h : Kp1 B X Y) (k : Kp1 B Y Z) : Kp1 B X Z := ⟨Nat.le_trans h.1 k.1, fun i hi hl => (k.2 i hi (Nat.lt_of_lt_of_le hl h.1)).trans (h.2 i hi hl)⟩
theorem Kp1.refl (B : Nat) (X : World) : Kp1 B X X := ⟨Nat.le_refl _, fun _ _ _ => rfl⟩
theorem Kp1.turn {B n : Nat} {X Y : World} (h : Turn n X Y) (hB : B < n) (hg : 0 < n) : Kp1 B X Y := by
  obtain ⟨row, hgr, hr⟩ := h
  exact ⟨hgr.size, fun k hk hl => hgr.block k hl (fun e => by have := (hr k e.symm).1; omega)⟩
theorem Kp1.box {B : Nat} {X Y : World} {t : TypeId} {cs : Array Value} (h : Kp1 B X Y) (hb : Blk X B t cs) : Blk Y B t cs := (h.2 B (.inl rfl) hb.lt).trans hb
theorem Kp1.glb {B : Nat} {X Y : World} (h : Kp1 B X Y) (hg : Glb X) : Glb Y := hg.keep (h.2 _ (.inr rfl) hg.lt)
/-- What a round of the loop over lines is handed: the words of the k-th line. -/
def LineG (s0 : List UInt8) (k : Nat) (args : Array Value) (W : World) : Prop :=
  ∃ (A : Option Addr) (c : Nat) (ws : List ByteArray), args = #[.slice A ws.length c] ∧ (linesS s0)[k]? = some (ws.map (·.data.toList)) ∧ Reads W W.heap.size 1 A ws.length (ws.map Value.string) ∧ ∀ x ∈ ws, x.size ≤ maxLen
def lineLeft (B : Nat) (W : World) : Nat := match W.cell? ⟨B, 0, none⟩ with
  | some (.string s) => s.size
  | _ => 0

set_option maxRecDepth 100000 in
set_option maxHeartbeats 1000000 in
theorem lines_seq (B : Nat) (s0 : ByteArray) (hs : s0.size < 4294967281) (hB : 0 < B) :
    Seq Tryd.prog 64 #[.pointer (some ⟨B, 0, none⟩)] (fun A A' => A.grownBy A' (some B)) (Kp1 B) (LineG s0.data.toList) (linesS s0.data.toList).length
      (fun W => Blk W B 9 #[.string s0] ∧ Glb W) := by
  intro l J Jx W hJ hJx hY h0 hinit
  refine callsIn_of_wp Tryd.func64 rfl trivial ?_ rfl
  simp only [Tryd.ntmps64, List.size_toArray, List.length_cons, List.length_nil, Nat.reduceAdd, Nat.reduceSub, Array.replicate_succ, Array.replicate_zero, List.push_toArray, List.append_toArray, List.nil_append, List.cons_append]
  gi_wp2
  gi_loopw [3, 4, 5] (fun _ _ _ wr => ∃ (k : Nat) (s : ByteArray), k ≤ (linesS s0.data.toList).length ∧ Blk wr B 9 #[.string s] ∧ Glb wr ∧ Hid ((linesS s0.data.toList).drop k = linesS s.data.toList) ∧ s.size ≤ s0.size ∧ J k wr) (fun _ _ _ wr => lineLeft B wr)
  case atStart => exact ⟨0, s0, Nat.zero_le _, hinit.1, hinit.2, rfl, Nat.le_refl _, h0⟩
  case round =>
    obtain ⟨k, s, hk, hb, hg, HD, hsz, hj⟩ := hrel
    have c0 : wr.cell? ⟨B, 0, none⟩ = some (.string s) := hb.cell 0
    by_cases he : s.toList = []
    · have hK : k = (linesS s0.data.toList).length := by
        have := HD.out
        rw [← ByteArray.toList_eq s, he, linesS_nil] at this
        have := List.drop_eq_nil_iff.1 this
        omega
      have HK := Lib.hid hK
      have e1 : s.toList.isEmpty = true := by rw [he]; rfl
      clear he hK
      gi_wp2
      go_end0
      exact ⟨⟨_, rfl⟩, .inl (by rw [← HK.out]; exact hj)⟩
    · have hne : s.data.toList ≠ [] := by rw [← ByteArray.toList_eq s]; exact he
      have e1 : (!s.toList.isEmpty) = true := by simpa using he
      have HL := Lib.hid (linesS_cons hne)
      have hkK : k < (linesS s0.data.toList).length := by
        rcases Nat.lt_or_ge k (linesS s0.data.toList).length with h | h
        · exact h
        · have := HD.out
          rw [List.drop_eq_nil_of_le h, HL.out] at this
          split at this <;> cases this
      have HX : Hid ((linesS s0.data.toList)[k]? = (linesS s.data.toList)[0]?) := by
        show _ = _
        rw [← HD.out, List.getElem?_drop, Nat.add_zero]
      clear he hne
      cases hc : cut1 10 s.data.toList with
      | none =>
        rw [hc] at HL
        have HC := Lib.hid hc
        clear hc
        gi_wp2_with fail
        refine ⟨trivial, (callsIn_wide.2 (cut_miss wr s 10 (by omega) hg HC.out)).mono ?_⟩
        rintro e w' ⟨rfl, q, rfl⟩
        obtain ⟨fn, tmps, assign, body, hy, hR⟩ := hY k #[.slice none 0 0] (wr.drewN q) hkK (hJ k _ _ hj (grown_drewN _ _ _)) ⟨none, 0, [], rfl, by rw [HX.out, HL.out]; rfl, Reads.none_, (fun x hx => by cases hx)⟩
        have HLN := Lib.hid (congrArg List.length HD.out)
        clear hY
        gi_wp2_with fail
        refine hR.mono ?_
        rintro e W3 (⟨rfl, hJ3, hk3⟩ | ⟨rfl, hJ3⟩)
        · gi_wp2
          refine bodyPost_ret (results_none rfl _ _ _) rfl ⟨⟨_, rfl⟩, .inl ?_⟩
          have e : k + 1 = (linesS s0.data.toList).length := by
            have := HLN.out
            rw [HL.out, List.length_drop] at this
            simp at this
            omega
          rw [← e]
          exact hJ3
        · gi_wp2
          refine bodyPost_ret (results_none rfl _ _ _) rfl ⟨⟨_, rfl⟩, .inr hJ3⟩
      | some p =>
        obtain ⟨a, r⟩ := p
        rw [hc] at HL
        dsimp only at HL
        have HC := Lib.hid hc
        obtain ⟨hsplit, _⟩ := cut1_some hc
        have hlen : a.length + 1 + r.length = s.size := by
          have := congrArg List.length hsplit
          simp at this
          omega
        clear hc hsplit
        gi_wp2_with fail
        refine ⟨trivial, (callsIn_wide.2 (cut_hit wr s 10 a r (by omega) hg HC.out)).mono ?_⟩
        rintro e w' ⟨rfl, q, rfl⟩
        gi_wp2_with fail
        refine ⟨trivial, (callsIn_wide.2 (split_one (wr.drewN q) ⟨a.toArray⟩ 32 (by show a.length < _; omega) (hg.keep rfl))).mono ?_⟩
        rintro e w' ⟨ws, hws, rfl, rfl⟩
        have hwl : ws.length ≤ a.length + 1 := by
          have h1 := congrArg List.length hws
          have h2 := split1_len 32 a
          simp at h1
          omega
        have hwm : ∀ x ∈ ws, x.size ≤ maxLen := fun x hx => by
          have h1 : x.data.toList ∈ split1 32 a := by rw [← hws]; exact List.mem_map_of_mem hx
          have h2 := split1_mem h1
          simp at h2
          unfold maxLen
          omega
        have hg1 : wr.grownBy ((wr.drewN q).alloc (.cells (ws.map Value.string).toArray 9)) (some B) := grown_trans (grown_drewN wr q (some B)) (World.grownBy_alloc _ _ _)
        obtain ⟨fn, tmps, assign, body, hy, hR⟩ := hY k #[.slice (some ⟨wr.heap.size, 0, none⟩) ws.length ws.length] ((wr.drewN q).alloc (.cells (ws.map Value.string).toArray 9)) hkK (hJ k _ _ hj hg1)
          ⟨_, _, ws, rfl, by rw [HX.out, HL.out, hws]; rfl, by
            have := Owns.new_ (wr.drewN q) 9 1 ws.length (ws.map Value.string).toArray (by simp) (by unfold maxLen; omega) (Nat.zero_le _)
            simpa using this.rd, hwm⟩
        have hb1 : Blk ((wr.drewN q).alloc (.cells (ws.map Value.string).toArray 9)) B 9 #[.string s] := (hb.drewN q).alloc _
        clear hY hws hwm
        gi_wp2_with fail
        refine hR.mono ?_
        rintro e W3 (⟨rfl, hJ3, hk3⟩ | ⟨rfl, hJ3⟩)
        · have hb3 : Blk W3 B 9 #[.string s] := hk3.box hb1
          have hg3 : Glb W3 := hk3.glb (Glb.keep (W := wr) hg (heap_alloc_old _ _ hg.lt))
          have d0 : W3.cell? ⟨B, 0, none⟩ = some (.string s) := hb3.cell 0
          have d1 : W3.frozen? ⟨B, 0, none⟩ = false := hb3.frozen 0
          have HB3 := Lib.hid hb3
          have HG3 := Lib.hid hg3
          clear hb3 hg3 hk3
          gi_wp2
          go_roundw
          case rel =>
            refine ⟨k + 1, ⟨r.toArray⟩, by omega, by have := HB3.out.set_ 0 (.string ⟨r.toArray⟩); simpa using this, HG3.out.keep (Below.heap_setCell _ _ _ _ (by simp; omega)), ?_, by show r.length ≤ _; omega, hJ _ _ _ hJ3 (grownBy_setCell' _ _ _)⟩
            show (linesS s0.data.toList).drop (k + 1) = linesS r
            rw [← List.tail_drop, HD.out, HL.out]
            rfl
          case measure =>
            have h1 : lineLeft B wr = s.size := by unfold lineLeft; rw [c0]
            have h2 : lineLeft B (W3.setCell ⟨B, 0, none⟩ (.string ⟨r.toArray⟩)) = r.length := by
              unfold lineLeft
              rw [World.cell?_setCell_same' _ _ _ (by rw [d0]; rfl)]
              rfl
            rw [h1, h2]
            omega
        · gi_wp2
          refine bodyPost_ret (results_none rfl _ _ _) rfl ⟨⟨_, rfl⟩, .inr hJ3⟩
end Go.Proofs.YtnmnbefbadhkgaaDoor
