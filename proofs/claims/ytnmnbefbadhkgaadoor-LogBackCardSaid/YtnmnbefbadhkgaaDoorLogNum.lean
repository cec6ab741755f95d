/-
  WALK: (*log.reader).num.
-/
import Derived.Test.YtnmnbefbadhkgaaDoorMem
import Derived.Test.YtnmnbefbadhkgaaDoorLogM
import Derived.Test.YtnmnbefbadhkgaaDoorScope2
import Derived.Test.YtnmnbefbadhkgaaDoorProg
import Derived.WalkSpells
import Derived.WalkLawsBesides
import Derived.BigQuiet
import Derived.Deep.QuietTactic
import Derived.Outline
import Derived.Deep.Cut
import Derived.Lib.QuoteBits
import Derived.Lib.IndexBytes
namespace Go.Proofs.YtnmnbefbadhkgaaDoor
open Go Go.RowKit

/-- The reader's block holds what this reader is. -/
def RdrAt (w : World) (g : Nat) (r : Rdr) : Prop := ∃ s : ByteArray, s.data.toList = r.s ∧ s.size ≤ maxLen ∧ Blk w g 98 #[.string s, .int .i64 r.e]
def NumSays (w : World) (g : Nat) (s : ByteArray) (e : Nat) (most : Int) (en : Ending) (w' : World) : Prop :=
  ∃ n r, num most.toNat ⟨s.data.toList, e⟩ = (n, r) ∧ en = .returned (.int .i64 n) ∧ RdrAt w' g r ∧ w.grownBy w' (some g)

/-- The frame, what it holds from slot 7 on left open. -/
def numFrame (g : Nat) (most : Int) (v5 v6 : Value) (u : Nat → Value) : Act := { tmps := #[.pointer (some ⟨g, 0, none⟩), .int .i64 most, u 2, u 3, .int .i64 0, v5, v6, u 7, u 8, u 9, u 10, u 11, u 12, u 13, u 14, u 15, u 16, u 17, u 18, u 19, u 20, u 21, u 22, u 23, u 24, u 25, u 26, u 27, u 28, u 29, u 30, u 31, u 32, u 33, u 34, u 35, u 36, u 37, u 38, u 39, u 40, u 41, u 42, u 43, u 44, u 45, u 46, u 47, u 48, u 49, u 50, u 51, u 52, u 53, u 54, u 55, u 56, u 57, u 58, u 59, u 60, u 61, u 62, u 63, u 64, u 65, u 66, u 67, u 68, u 69, u 70, u 71, u 72, u 73, u 74, u 75, u 76, u 77, u 78, u 79, u 80, u 81, u 82, u 83, u 84, u 85, u 86, u 87, u 88, u 89, u 90, u 91], defers := [] }
def NumF (g : Nat) (most : Int) (v5 v6 : Value) (a : Act) : Prop :=
  a.tmps.size = 92 ∧ a.tmps[0]? = some (.pointer (some ⟨g, 0, none⟩)) ∧ a.tmps[1]? = some (.int .i64 most) ∧ a.tmps[4]? = some (.int .i64 0) ∧ a.tmps[5]? = some v5 ∧ a.tmps[6]? = some v6 ∧ a.defers = []
theorem arr_of (t : Array Value) (n : Nat) (h : t.size = n) : t = ((List.range n).map fun i => t.getD i undef).toArray := by
  apply Array.ext
  · simp [h]
  · intro i h1 h2
    simp [h1]
theorem NumF.frame {g : Nat} {most : Int} {v5 v6 : Value} {a : Act} (h : NumF g most v5 v6 a) : ∃ u, a = numFrame g most v5 v6 u := by
  obtain ⟨tm, df⟩ := a
  obtain ⟨h, h0, h1, h4, h5, h6, hd⟩ := h
  dsimp only at *
  subst hd
  refine ⟨fun i => tm.getD i undef, ?_⟩
  have hu : ∀ i v, tm[i]? = some v → tm.getD i undef = v := fun i v hv => by simp [Array.getD_eq_getD_getElem?, hv]
  unfold numFrame
  congr 1
  refine (arr_of tm 92 h).trans ?_
  rw [← hu 0 _ h0, ← hu 1 _ h1, ← hu 4 _ h4, ← hu 5 _ h5, ← hu 6 _ h6]
  rfl
/-- What holds at the label 'next'. -/
def NumJ1 (w : World) (g : Nat) (s : ByteArray) (most : Int) (a : Act) (w' : World) : Prop :=
  w' = w ∧ ∃ (k n : Nat), NumF g most (.int .i64 n) (.int .i64 k) a ∧ 1 ≤ k ∧ k ≤ 4 ∧ k ≤ s.size ∧ (n : Int) ≤ most ∧ n < 128 ^ k ∧ numGo most.toNat 0 0 s.data.toList = numGo most.toNat k n (s.data.toList.drop k)
/-- .. at the label 'wrong'. -/
def NumJ2 (w : World) (g : Nat) (s : ByteArray) (e : Nat) (most : Int) (a : Act) (w' : World) : Prop :=
  ∃ v5 v6, NumF g most v5 v6 a ∧ NumSays w g s e most (.returned (.int .i64 0)) w'
def numAt (a : Act) (_ : World) : Nat := 5 - (intOf (a.tmps[6]?.getD undef)).toNat

theorem and127 : ∀ y : Fin 256, ((y : Nat) &&& 127) = (y : Nat) % 128 := by decide +kernel
theorem and128 : ∀ y : Fin 256, ((y : Nat) &&& 128) = if (y : Nat) < 128 then 0 else 128 := by decide +kernel
theorem byteLow (b : Nat) (h : b < 256) : bits .andNot .u8 (b : Int) 128 = ((b % 128 : Nat) : Int) := by
  rw [show (128 : Int) = ((128 : Nat) : Int) from rfl, u8_andNot_nat b 128 h (by omega), show 255 - 128 = 127 from rfl]
  have := and127 ⟨b, h⟩
  simp only at this
  rw [this]
theorem byteHigh (b : Nat) (h : b < 256) : bits .and .u8 (b : Int) 128 = if b < 128 then 0 else 128 := by
  rw [show (128 : Int) = ((128 : Nat) : Int) from rfl, u8_and_nat b 128 h (by omega)]
  have := and128 ⟨b, h⟩
  simp only at this
  rw [this]
  split <;> rfl
theorem i64_or_nat (a b : Nat) (ha : a < 9223372036854775808) (hb : b < 9223372036854775808) : bits .or .i64 (a : Int) (b : Int) = ((a ||| b : Nat) : Int) := by
  show IntKind.i64.wrap ((BitVec.ofInt 64 (a : Int) ||| BitVec.ofInt 64 (b : Int)).toNat : Int) = _
  rw [BitVec.toNat_or, ofInt_u64 a (by omega), ofInt_u64 b (by omega)]
  exact Lib.wrap_i64_small _ (Nat.or_lt_two_pow (n := 63) (by simpa using ha) (by simpa using hb))
theorem or_place (n x k : Nat) (h : n < 2 ^ k) : n ||| (x * 2 ^ k) = n + x * 2 ^ k := by
  rw [Nat.or_comm, Nat.mul_comm, ← Nat.two_pow_add_eq_or_of_lt h]
  omega
theorem wrap64_small (n : Int) (h0 : 0 ≤ n) (h1 : n < 9223372036854775808) : wrap64 n = n := by
  unfold wrap64
  omega
/-- One byte more. -/
theorem numStep (n b j : Nat) (hb : b < 256) (hn : n < 2 ^ j) (hj : j ≤ 28) : bits .or .i64 (n : Int) (wrap64 (wrap64 (bits .andNot .u8 (b : Int) 128) * ((2 ^ j : Nat) : Int))) = ((n + b % 128 * 2 ^ j : Nat) : Int) := by
  have hp : 2 ^ j ≤ 2 ^ 28 := Nat.pow_le_pow_right (by omega) hj
  have hx : b % 128 * 2 ^ j ≤ 127 * 2 ^ 28 := Nat.mul_le_mul (by omega) hp
  have hn2 : n < 2 ^ 28 := by omega
  rw [byteLow b hb, wrap64_small ((b % 128 : Nat) : Int) (by omega) (by omega), ← Int.natCast_mul, ← or_place _ _ _ hn]
  generalize b % 128 * 2 ^ j = q at *
  rw [wrap64_small _ (by omega) (by omega), i64_or_nat _ _ (by omega) (by omega)]

/-- A step of the plain function, by what the walk asks. -/
theorem numGo_at {most k n : Nat} {s : ByteArray} (h : k < s.size) : numGo most k n (s.data.toList.drop k) = if most < n + s[k].toNat % 128 * 128 ^ k then .error 4
    else if 128 ≤ s[k].toNat then (if k + 1 < 5 then numGo most (k + 1) (n + s[k].toNat % 128 * 128 ^ k) (s.data.toList.drop (k + 1)) else .error 4)
    else if 0 < k ∧ s[k].toNat = 0 then .error 4 else .ok (n + s[k].toNat % 128 * 128 ^ k, s.data.toList.drop (k + 1)) := by
  rw [List.drop_eq_getElem_cons (by simpa using h), numGo_cons]
  rfl
theorem numGo_past {most k n : Nat} {s : ByteArray} (h : s.size ≤ k) : numGo most k n (s.data.toList.drop k) = .error 8 := by
  rw [List.drop_eq_nil_of_le (by simpa using h)]
  exact numGo_nil _ _ _

/-- It goes wrong: the reader's error is this one. -/
theorem numSays_err {w : World} {g : Nat} {s : ByteArray} {most : Int} {e : Nat} (h : Blk w g 98 #[.string s, .int .i64 0]) (hs : s.size ≤ maxLen) (hg : numGo most.toNat 0 0 s.data.toList = .error e) :
    NumSays w g s 0 most (.returned (.int .i64 0)) (w.setCell ⟨g, 1, none⟩ (.int .i64 e)) := by
  refine ⟨0, ⟨s.data.toList, e⟩, ?_, rfl, ⟨s, rfl, hs, ?_⟩, ?_⟩
  · unfold num
    rw [if_neg (by simp)]
    simp only [hg]
  · have := h.set_ 1 (.int .i64 e)
    simpa using this
  · exact ⟨rfl, rfl, rfl, by simp [World.setCell], fun k _ hk => Below.heap_setCell w _ _ k (fun e => hk (by rw [e]))⟩
theorem numSays_ok {w : World} {g : Nat} {s t : ByteArray} {most : Int} {n : Nat} (h : Blk w g 98 #[.string s, .int .i64 0]) (ht : t.size ≤ maxLen) (hg : numGo most.toNat 0 0 s.data.toList = .ok (n, t.data.toList)) :
    NumSays w g s 0 most (.returned (.int .i64 n)) (w.setCell ⟨g, 0, none⟩ (.string t)) := by
  refine ⟨n, ⟨t.data.toList, 0⟩, ?_, rfl, ⟨t, rfl, ht, ?_⟩, ?_⟩
  · unfold num
    rw [if_neg (by simp)]
    simp only [hg]
  · have := h.set_ 0 (.string t)
    simpa using this
  · exact ⟨rfl, rfl, rfl, by simp [World.setCell], fun k _ hk => Below.heap_setCell w _ _ k (fun e => hk (by rw [e]))⟩

set_option maxRecDepth 100000 in
set_option maxHeartbeats 2000000 in
theorem num_ok (w : World) (g : Nat) (s : ByteArray) (most : Int) (h : Blk w g 98 #[.string s, .int .i64 0]) (hs : s.size ≤ maxLen) (hm : 0 ≤ most) (hm5 : most < 34359738368) :
    Calls Tryd.prog 50 #[.pointer (some ⟨g, 0, none⟩), .int .i64 most] w (NumSays w g s 0 most) := by
  have HB := Lib.hid h
  have c0 : w.cell? ⟨g, 0, none⟩ = some (.string s) := h.cell 0
  have c1 : w.cell? ⟨g, 1, none⟩ = some (.int .i64 0) := h.cell 1
  have f0 := h.frozen 0
  have f1 := h.frozen 1
  have hs' := hs
  unfold maxLen at hs
  clear h
  go_enter Tryd.func50, Tryd.ntmps50
  go_wp2_with fail
  refine wp_scope_two 1 0 (NumJ1 w g s most) (NumJ2 w g s 0 most) numAt rfl rfl ?_ ?_ ?_
  · by_cases hlt : 0 < s.size
    · have hbb := s[0].toNat_lt
      have hne : ((0 : Int) == (s.size : Int)) = false := by simp; omega
      have hG := numGo_at (most := most.toNat) (k := 0) (n := 0) hlt
      rw [List.drop_zero] at hG
      have hV := numStep 0 s[0].toNat 0 (by omega) (by omega) (by omega)
      rw [show ((2 ^ 0 : Nat) : Int) = 1 from rfl, Int.mul_one, Int.natCast_zero] at hV
      obtain ⟨V, hVe⟩ : ∃ V, 0 + s[0].toNat % 128 * 2 ^ 0 = V := ⟨_, rfl⟩
      rw [hVe] at hV
      rw [show 0 + s[0].toNat % 128 * 128 ^ 0 = V from hVe] at hG
      have HG := Lib.hid hG
      have HV := Lib.hid hVe
      have hA := byteHigh s[0].toNat (by omega)
      have hbb' : s[0].toNat < 256 := hbb
      clear hVe hG hbb
      by_cases hgt : most < (V : Int)
      · clear hA
        go_wp2
        go_step3
        go_wp2
        go_step3
        exact .inr ⟨rfl, _, _, ⟨rfl, rfl, rfl, rfl, rfl, rfl, rfl⟩, numSays_err HB.out hs' (by rw [HG.out, if_pos (by omega)])⟩
      by_cases hb : s[0].toNat < 128
      · rw [if_pos hb] at hA
        go_wp2
        go_step3
        go_wp2
        rw [jump2_ret]
        go_ret
        refine numSays_ok HB.out ?_ ?_
        · simp
          omega
        · rw [Lib.extract_to_end, HG.out, if_neg (by omega), if_neg (by omega), if_neg (fun h => by omega)]
      rw [if_neg hb] at hA
      go_wp2
      go_step3
      go_wp2
      go_step3
      exact .inl ⟨rfl, ⟨rfl, 1, V, ⟨rfl, rfl, rfl, rfl, rfl, rfl, rfl⟩, by omega, by omega, by omega, by omega, by have := HV.out; omega, by rw [HG.out, if_neg (by omega), if_pos (by omega), if_pos (by omega)]⟩⟩
    · have hp := numGo_past (most := most.toNat) (k := 0) (n := 0) (s := s) (by omega)
      rw [List.drop_zero] at hp
      have HG := Lib.hid hp
      clear hp
      have hne : ((0 : Int) == (s.size : Int)) = true := by simp; omega
      go_wp2
      go_step3
      go_wp2
      go_step3
      exact .inr ⟨rfl, _, _, ⟨rfl, rfl, rfl, rfl, rfl, rfl, rfl⟩, numSays_err HB.out hs' (by rw [HG.out])⟩
  · rintro a' w' ⟨rfl, k, n, hfr, hk1, hk4, hks, hnm, hnk, heq⟩
    obtain ⟨u, rfl⟩ := hfr.frame
    clear hfr
    unfold numFrame
    have HE := Lib.hid heq
    clear heq
    by_cases hlt : k < s.size
    · have hbb := s[k].toNat_lt
      have hG := numGo_at (most := most.toNat) (n := n) hlt
      obtain rfl | rfl | rfl | rfl : k = 1 ∨ k = 2 ∨ k = 3 ∨ k = 4 := by omega
      · have hne : ((1 : Int) == (s.size : Int)) = false := by simp; omega
        have hV := numStep n s[1].toNat 7 (by omega) (by simpa using hnk) (by omega)
        rw [show ((2 ^ 7 : Nat) : Int) = 128 from rfl] at hV
        obtain ⟨V, hVe⟩ : ∃ V, n + s[1].toNat % 128 * 2 ^ 7 = V := ⟨_, rfl⟩
        rw [hVe] at hV
        rw [show n + s[1].toNat % 128 * 128 ^ 1 = V from hVe] at hG
        have HG := Lib.hid hG
        have HV := Lib.hid hVe
        have hA := byteHigh s[1].toNat (by omega)
        have hbb' : s[1].toNat < 256 := hbb
        clear hVe hG hbb
        by_cases hgt : most < (V : Int)
        · clear hA
          go_wp2
          go_step3
          exact .inr ⟨rfl, _, _, ⟨rfl, rfl, rfl, rfl, rfl, rfl, rfl⟩, numSays_err HB.out hs' (by rw [HE.out, HG.out, if_pos (by omega)])⟩
        by_cases hb : s[1].toNat < 128
        · rw [if_pos hb] at hA
          by_cases hz : s[1].toNat = 0
          · have hzb : ((s[1].toNat : Int) == 0) = true := by simp [hz]
            have HZ := Lib.hid hz
            clear hz
            go_wp2
            go_step3
            exact .inr ⟨rfl, _, _, ⟨rfl, rfl, rfl, rfl, rfl, rfl, rfl⟩, numSays_err HB.out hs' (by rw [HE.out, HG.out, if_neg (by omega), if_neg (by omega), if_pos ⟨by omega, HZ.out⟩])⟩
          · have hzb : ((s[1].toNat : Int) == 0) = false := by simp; omega
            have HZ := Lib.hid hz
            clear hz
            go_wp2
            rw [jump2_ret]
            go_ret
            refine numSays_ok HB.out ?_ ?_
            · simp
              omega
            · rw [Lib.extract_to_end, HE.out, HG.out, if_neg (by omega), if_neg (by omega), if_neg (fun h => HZ.out h.2)]
        rw [if_neg hb] at hA
        · go_wp2
          go_step3
          exact .inl ⟨rfl, ⟨rfl, 2, V, ⟨rfl, rfl, rfl, rfl, rfl, rfl, rfl⟩, by omega, by omega, by omega, by omega, by have := HV.out; omega, by rw [HE.out, HG.out, if_neg (by omega), if_pos (by omega), if_pos (by omega)]⟩, by simp [numAt, intOf]⟩
      · have hne : ((2 : Int) == (s.size : Int)) = false := by simp; omega
        have hV := numStep n s[2].toNat 14 (by omega) (by simpa using hnk) (by omega)
        rw [show ((2 ^ 14 : Nat) : Int) = 16384 from rfl] at hV
        obtain ⟨V, hVe⟩ : ∃ V, n + s[2].toNat % 128 * 2 ^ 14 = V := ⟨_, rfl⟩
        rw [hVe] at hV
        rw [show n + s[2].toNat % 128 * 128 ^ 2 = V from hVe] at hG
        have HG := Lib.hid hG
        have HV := Lib.hid hVe
        have hA := byteHigh s[2].toNat (by omega)
        have hbb' : s[2].toNat < 256 := hbb
        clear hVe hG hbb
        by_cases hgt : most < (V : Int)
        · clear hA
          go_wp2
          go_step3
          exact .inr ⟨rfl, _, _, ⟨rfl, rfl, rfl, rfl, rfl, rfl, rfl⟩, numSays_err HB.out hs' (by rw [HE.out, HG.out, if_pos (by omega)])⟩
        by_cases hb : s[2].toNat < 128
        · rw [if_pos hb] at hA
          by_cases hz : s[2].toNat = 0
          · have hzb : ((s[2].toNat : Int) == 0) = true := by simp [hz]
            have HZ := Lib.hid hz
            clear hz
            go_wp2
            go_step3
            exact .inr ⟨rfl, _, _, ⟨rfl, rfl, rfl, rfl, rfl, rfl, rfl⟩, numSays_err HB.out hs' (by rw [HE.out, HG.out, if_neg (by omega), if_neg (by omega), if_pos ⟨by omega, HZ.out⟩])⟩
          · have hzb : ((s[2].toNat : Int) == 0) = false := by simp; omega
            have HZ := Lib.hid hz
            clear hz
            go_wp2
            rw [jump2_ret]
            go_ret
            refine numSays_ok HB.out ?_ ?_
            · simp
              omega
            · rw [Lib.extract_to_end, HE.out, HG.out, if_neg (by omega), if_neg (by omega), if_neg (fun h => HZ.out h.2)]
        rw [if_neg hb] at hA
        · go_wp2
          go_step3
          exact .inl ⟨rfl, ⟨rfl, 3, V, ⟨rfl, rfl, rfl, rfl, rfl, rfl, rfl⟩, by omega, by omega, by omega, by omega, by have := HV.out; omega, by rw [HE.out, HG.out, if_neg (by omega), if_pos (by omega), if_pos (by omega)]⟩, by simp [numAt, intOf]⟩
      · have hne : ((3 : Int) == (s.size : Int)) = false := by simp; omega
        have hV := numStep n s[3].toNat 21 (by omega) (by simpa using hnk) (by omega)
        rw [show ((2 ^ 21 : Nat) : Int) = 2097152 from rfl] at hV
        obtain ⟨V, hVe⟩ : ∃ V, n + s[3].toNat % 128 * 2 ^ 21 = V := ⟨_, rfl⟩
        rw [hVe] at hV
        rw [show n + s[3].toNat % 128 * 128 ^ 3 = V from hVe] at hG
        have HG := Lib.hid hG
        have HV := Lib.hid hVe
        have hA := byteHigh s[3].toNat (by omega)
        have hbb' : s[3].toNat < 256 := hbb
        clear hVe hG hbb
        by_cases hgt : most < (V : Int)
        · clear hA
          go_wp2
          go_step3
          exact .inr ⟨rfl, _, _, ⟨rfl, rfl, rfl, rfl, rfl, rfl, rfl⟩, numSays_err HB.out hs' (by rw [HE.out, HG.out, if_pos (by omega)])⟩
        by_cases hb : s[3].toNat < 128
        · rw [if_pos hb] at hA
          by_cases hz : s[3].toNat = 0
          · have hzb : ((s[3].toNat : Int) == 0) = true := by simp [hz]
            have HZ := Lib.hid hz
            clear hz
            go_wp2
            go_step3
            exact .inr ⟨rfl, _, _, ⟨rfl, rfl, rfl, rfl, rfl, rfl, rfl⟩, numSays_err HB.out hs' (by rw [HE.out, HG.out, if_neg (by omega), if_neg (by omega), if_pos ⟨by omega, HZ.out⟩])⟩
          · have hzb : ((s[3].toNat : Int) == 0) = false := by simp; omega
            have HZ := Lib.hid hz
            clear hz
            go_wp2
            rw [jump2_ret]
            go_ret
            refine numSays_ok HB.out ?_ ?_
            · simp
              omega
            · rw [Lib.extract_to_end, HE.out, HG.out, if_neg (by omega), if_neg (by omega), if_neg (fun h => HZ.out h.2)]
        rw [if_neg hb] at hA
        · go_wp2
          go_step3
          exact .inl ⟨rfl, ⟨rfl, 4, V, ⟨rfl, rfl, rfl, rfl, rfl, rfl, rfl⟩, by omega, by omega, by omega, by omega, by have := HV.out; omega, by rw [HE.out, HG.out, if_neg (by omega), if_pos (by omega), if_pos (by omega)]⟩, by simp [numAt, intOf]⟩
      · have hne : ((4 : Int) == (s.size : Int)) = false := by simp; omega
        have hV := numStep n s[4].toNat 28 (by omega) (by simpa using hnk) (by omega)
        rw [show ((2 ^ 28 : Nat) : Int) = 268435456 from rfl] at hV
        obtain ⟨V, hVe⟩ : ∃ V, n + s[4].toNat % 128 * 2 ^ 28 = V := ⟨_, rfl⟩
        rw [hVe] at hV
        rw [show n + s[4].toNat % 128 * 128 ^ 4 = V from hVe] at hG
        have HG := Lib.hid hG
        have HV := Lib.hid hVe
        have hA := byteHigh s[4].toNat (by omega)
        have hbb' : s[4].toNat < 256 := hbb
        clear hVe hG hbb
        by_cases hgt : most < (V : Int)
        · clear hA
          go_wp2
          go_step3
          exact .inr ⟨rfl, _, _, ⟨rfl, rfl, rfl, rfl, rfl, rfl, rfl⟩, numSays_err HB.out hs' (by rw [HE.out, HG.out, if_pos (by omega)])⟩
        by_cases hb : s[4].toNat < 128
        · rw [if_pos hb] at hA
          by_cases hz : s[4].toNat = 0
          · have hzb : ((s[4].toNat : Int) == 0) = true := by simp [hz]
            have HZ := Lib.hid hz
            clear hz
            go_wp2
            go_step3
            exact .inr ⟨rfl, _, _, ⟨rfl, rfl, rfl, rfl, rfl, rfl, rfl⟩, numSays_err HB.out hs' (by rw [HE.out, HG.out, if_neg (by omega), if_neg (by omega), if_pos ⟨by omega, HZ.out⟩])⟩
          · have hzb : ((s[4].toNat : Int) == 0) = false := by simp; omega
            have HZ := Lib.hid hz
            clear hz
            go_wp2
            rw [jump2_ret]
            go_ret
            refine numSays_ok HB.out ?_ ?_
            · simp
              omega
            · rw [Lib.extract_to_end, HE.out, HG.out, if_neg (by omega), if_neg (by omega), if_neg (fun h => HZ.out h.2)]
        rw [if_neg hb] at hA
        · go_wp2
          go_step3
          exact .inr ⟨rfl, _, _, ⟨rfl, rfl, rfl, rfl, rfl, rfl, rfl⟩, numSays_err HB.out hs' (by rw [HE.out, HG.out, if_neg (by omega), if_pos (by omega), if_neg (by omega)])⟩
    · have hp := numGo_past (most := most.toNat) (k := k) (n := n) (s := s) (by omega)
      have HG := Lib.hid hp
      obtain rfl : k = s.size := by omega
      clear hp
      have hne : ((s.size : Int) == (s.size : Int)) = true := by simp
      go_wp2
      go_step3
      exact .inr ⟨rfl, _, _, ⟨rfl, rfl, rfl, rfl, rfl, rfl, rfl⟩, numSays_err HB.out hs' (by rw [HE.out, HG.out])⟩
  · rintro a' w' ⟨v5, v6, hfr, hsay⟩
    obtain ⟨u, rfl⟩ := hfr.frame
    unfold numFrame
    have HS := Lib.hid hsay
    clear hfr hsay
    go_wp2
    rw [Exit.noGoto_ret]
    go_ret
    exact HS.out

/-- The same of whatever reader. -/
def NumPost (w : World) (g : Nat) (r : Rdr) (most : Nat) (en : Ending) (w' : World) : Prop :=
  ∃ n r', num most r = (n, r') ∧ en = .returned (.int .i64 n) ∧ RdrAt w' g r' ∧ w.grownBy w' (some g)
theorem RdrAt.lt {w : World} {g : Nat} {r : Rdr} (h : RdrAt w g r) : g < w.heap.size := by
  obtain ⟨_, _, _, h⟩ := h
  exact h.lt
theorem num_any (w : World) (g : Nat) (r : Rdr) (most : Nat) (h : RdrAt w g r) (hm5 : most < 34359738368) (m : Int) (hm : m = most) :
    Calls Tryd.prog 50 #[.pointer (some ⟨g, 0, none⟩), .int .i64 m] w (NumPost w g r most) := by
  subst hm
  obtain ⟨s, hs, hl, hB⟩ := h
  obtain ⟨rs, e⟩ := r
  simp only at hs hB
  subst hs
  by_cases he : e = 0
  · subst he
    exact num_ok w g s most hB hl (by omega) (by omega)
  · have c1 : w.cell? ⟨g, 1, none⟩ = some (.int .i64 e) := hB.cell 1
    have hne : ((e : Int) != 0) = true := by simp; omega
    have HN : NumPost w g ⟨s.data.toList, e⟩ most (.returned (.int .i64 0)) w := ⟨0, _, num_err _ _ he, rfl, ⟨s, rfl, hl, hB⟩, rfl, rfl, rfl, Nat.le_refl _, fun _ _ _ => rfl⟩
    have HS := Lib.hid HN
    clear HN he hB
    go_enter Tryd.func50, Tryd.ntmps50
    go_wp2_with fail
    refine wp_scope_two 1 0 (fun _ _ => False) (fun a w' => (∃ v5 v6, NumF g most v5 v6 a) ∧ w' = w) numAt rfl rfl ?_ ?_ ?_
    · go_wp2
      go_step3
      exact .inr ⟨rfl, ⟨_, _, rfl, rfl, rfl, rfl, rfl, rfl, rfl⟩, rfl⟩
    · exact fun _ _ h => h.elim
    · rintro a' w' ⟨⟨v5, v6, hfr⟩, rfl⟩
      obtain ⟨u, rfl⟩ := hfr.frame
      unfold numFrame
      clear hfr
      go_wp2
      rw [Exit.noGoto_ret]
      go_ret
      exact HS.out
theorem num_le (most : Nat) (r : Rdr) : (num most r).1 ≤ most := by
  have key : ∀ (s : List UInt8) (k n : Nat) (m : Nat) (t : List UInt8), numGo most k n s = .ok (m, t) → m ≤ most := by
    intro s
    induction s with
    | nil => intro k n m t h; rw [numGo_nil] at h; cases h
    | cons b s ih =>
      intro k n m t h
      rw [numGo_cons] at h
      split at h
      · cases h
      split at h
      · split at h
        · exact ih _ _ _ _ h
        · cases h
      split at h
      · cases h
      · injection h with h
        injection h with h _
        omega
  unfold num
  split
  · exact Nat.zero_le _
  · cases h : numGo most 0 0 r.s with
    | error k => exact Nat.zero_le _
    | ok x => obtain ⟨m, t⟩ := x; exact key _ _ _ _ _ h
end Go.Proofs.YtnmnbefbadhkgaaDoor
