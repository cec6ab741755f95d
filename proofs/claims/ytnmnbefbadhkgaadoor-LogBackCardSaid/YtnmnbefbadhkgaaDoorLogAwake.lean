/-
  WALK: bonsailaw27.awake.
-/
import Derived.Test.YtnmnbefbadhkgaaDoorLogShow
import Derived.Test.YtnmnbefbadhkgaaDoorLogWrong
namespace Go.Proofs.YtnmnbefbadhkgaaDoor
open Go Go.RowKit

theorem bytes_eq {s : ByteArray} {l : List UInt8} (h : s.data.toList = l) : s = ⟨l.toArray⟩ := by
  cases s
  simp only at h
  subst h
  simp
theorem encode_some (w : World) (A : Option Addr) (c : Nat) (lv : List ItmV) (h : lv.map ItmV.x = someL) (hi : ItmsAt w w.heap.size A lv) :
    Calls Tryd.prog 16 #[.slice A 2 c] w fun e w' => e = .returned (.tuple #[.string ⟨#[2, 0, 2, 1, 172, 2, 2, 1, 0, 0]⟩, .int .i64 0]) ∧ Below w.heap.size w w' := by
  have hl : lv.length = 2 := by have := congrArg List.length h; simpa [someL] using this
  have hE : encodeS someL = ([2, 0, 2, 1, 172, 2, 2, 1, 0, 0], 0) := by decide +kernel
  have hc := encode_any w A c lv hi (fun v hv => by
    have hx : v.x ∈ someL := by rw [← h]; exact List.mem_map_of_mem hv
    simp only [someL, List.mem_cons, List.mem_nil_iff, or_false] at hx
    rcases hx with e | e <;> rw [e] <;> simp [Stp.fits, Stp.zero, isI64, maxLen]) (by omega)
  rw [hl] at hc
  refine hc.mono ?_
  rintro e w' ⟨s, rfl, hs, hb⟩
  rw [h, hE] at *
  rw [bytes_eq hs]
  exact ⟨rfl, hb⟩
theorem encode_nil (w : World) : Calls Tryd.prog 16 #[.slice none 0 0] w fun e w' => e = .returned (.tuple #[.string ⟨#[0]⟩, .int .i64 0]) ∧ Below w.heap.size w w' := by
  have hE : encodeS [] = ([0], 0) := by decide +kernel
  refine (encode_any w none 0 [] ⟨⟨rfl, fun h => absurd h (by simp)⟩, fun v hv => by cases hv⟩ (fun v hv => by cases hv) (by simp)).mono ?_
  rintro e w' ⟨s, rfl, hs, hb⟩
  rw [List.map_nil, hE] at *
  rw [bytes_eq hs]
  exact ⟨rfl, hb⟩
theorem some_line : showItm ⟨false, ⟨2, 1, 300, [1, 0], 0⟩⟩ = [50, 46, 49, 32, 51, 48, 48, 47, 49, 47, 48, 32, 64, 48] := by
  have d : ∀ u : Nat, u < 10 → Lib.itoa (u : Int) = [UInt8.ofNat (48 + u)] := fun u h => by
    unfold Lib.itoa
    rw [if_neg (by omega), Int.toNat_natCast, Lib.decDigits, dif_pos h]
  have d0 : Lib.itoa 0 = [48] := d 0 (by decide)
  have d1 : Lib.itoa 1 = [49] := d 1 (by decide)
  have d2 : Lib.itoa 2 = [50] := d 2 (by decide)
  have d3 : Lib.itoa 300 = [51, 48, 48] := by
    show Lib.itoa ((300 : Nat) : Int) = _
    unfold Lib.itoa
    rw [if_neg (by omega), Int.toNat_natCast, Lib.decDigits, dif_neg (by omega), show 300 / 10 = 30 from rfl, Lib.decDigits, dif_neg (by omega), show 30 / 10 = 3 from rfl, Lib.decDigits, dif_pos (by omega)]
    rfl
  have hm : Itm.may ⟨false, ⟨2, 1, 300, [1, 0], 0⟩⟩ = true := by decide +kernel
  unfold showItm
  rw [hm]
  show Lib.itoa 2 ++ [46] ++ Lib.itoa 1 ++ [32] ++ Lib.itoa 300 ++ ((47 :: Lib.itoa 1) ++ ((47 :: Lib.itoa 0) ++ [])) ++ [32, 64] ++ Lib.itoa 0 = _
  rw [d0, d1, d2, d3]
  rfl
set_option maxRecDepth 100000 in
set_option maxHeartbeats 2000000 in
theorem awake_any (w : World) (ht : Tab w) : Calls Tryd.prog 15 #[] w fun e w' => e = .returned (.bool true) ∧ Below w.heap.size w w' := by
  have htl := ht.lt
  go_enter Tryd.func15, Tryd.ntmps15
  go_wp2_with fail
  refine (encode_nil _).mono ?_
  rintro e w1 ⟨rfl, hb1⟩
  have HB1 := Lib.hid hb1
  clear hb1
  go_wp2_with fail
  refine (some27_any _).mono ?_
  rintro e w2 ⟨A, lv, rfl, hx, hi, hb2⟩
  have HX := Lib.hid hx
  have HI := Lib.hid hi
  have HB2 := Lib.hid (HB1.out.trans (hb2.mono HB1.out.size))
  clear hx hi hb2
  go_wp2_with fail
  refine (encode_some _ A 2 lv HX.out HI.out).mono ?_
  rintro e w3 ⟨rfl, hb3⟩
  have HB3 := Lib.hid (HB2.out.trans (hb3.mono HB2.out.size))
  clear hb3
  go_wp2_with fail
  refine (some27_any _).mono ?_
  rintro e w4 ⟨A', lv', rfl, hx', hi', hb4⟩
  have hl : lv'.length = 2 := by have := congrArg List.length hx'; simpa [someL] using this
  have hk : 1 < lv'.length := by omega
  obtain ⟨g, off, rfl, hg, c0, c1, c2, c3, c4, c5⟩ := hi'.1.itm hk
  obtain ⟨hrd, _⟩ := hi'.2 _ (List.getElem_mem hk)
  have hxv : (lv'[1]).x = ⟨false, ⟨2, 1, 300, [1, 0], 0⟩⟩ := by
    have : (lv'.map ItmV.x)[1]? = some (lv'[1]).x := by simp [hk]
    rw [hx'] at this
    exact (Option.some.inj this).symm
  obtain ⟨v, hv⟩ : ∃ v, lv'[1] = v := ⟨_, rfl⟩
  rw [hv] at c0 c1 c2 c3 c4 c5 hrd hxv
  obtain ⟨vx, vA, vc⟩ := v
  dsimp only at hxv
  subst hxv
  dsimp only at c0 c1 c2 c3 c4 c5
  have HB4 := Lib.hid (HB3.out.trans (hb4.mono HB3.out.size))
  have HRD := Lib.hid hrd
  clear hx' hi' hb4 hl hv hrd
  go_wp2_with fail
  have hsh := logShow_any w4 ⟨⟨false, ⟨2, 1, 300, [1, 0], 0⟩⟩, vA, vc⟩ HRD.out (by simp [Stp.fits, isI64, maxLen]) (ht.below HB4.out htl)
  rw [some_line] at hsh
  refine hsh.mono ?_
  rintro e w5 ⟨rfl, hb5⟩
  have HB5 := Lib.hid (HB4.out.trans (hb5.mono HB4.out.size))
  clear hb5 hsh
  go_wp2_with fail
  refine (wrong_any _ ⟨#[128, 0]⟩ (by show 2 ≤ maxLen; unfold maxLen; omega)).mono ?_
  rw [show wrongS (ByteArray.mk #[128, 0]).data.toList = 4 by decide +kernel]
  rintro e w6 ⟨rfl, hb6⟩
  have HB6 := Lib.hid (HB5.out.trans (hb6.mono HB5.out.size))
  clear hb6
  go_wp2_with fail
  refine (wrong_any _ ⟨#[1]⟩ (by show 1 ≤ maxLen; unfold maxLen; omega)).mono ?_
  rw [show wrongS (ByteArray.mk #[1]).data.toList = 8 by decide +kernel]
  rintro e w7 ⟨rfl, hb7⟩
  have HB7 := Lib.hid (HB6.out.trans (hb7.mono HB6.out.size))
  clear hb7
  go_wp2_with fail
  refine (wrong_any _ ⟨#[0, 0]⟩ (by show 2 ≤ maxLen; unfold maxLen; omega)).mono ?_
  rw [show wrongS (ByteArray.mk #[0, 0]).data.toList = 10 by decide +kernel]
  rintro e w8 ⟨rfl, hb8⟩
  have HB8 := Lib.hid (HB7.out.trans (hb8.mono HB7.out.size))
  clear hb8
  go_wp2
  go_ret
  exact ⟨rfl, HB8.out⟩
end Go.Proofs.YtnmnbefbadhkgaaDoor
