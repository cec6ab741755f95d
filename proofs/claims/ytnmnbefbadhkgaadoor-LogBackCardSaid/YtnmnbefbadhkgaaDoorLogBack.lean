/-
  WALK: the law LogBack.
-/
import Derived.Test.YtnmnbefbadhkgaaDoorLogBackA
import Derived.Deep.CutBlock
namespace Go.Proofs.YtnmnbefbadhkgaaDoor
open Go Go.RowKit

theorem encode_one (w : World) (A : Option Addr) (c : Nat) (l : List ItmV) (h : ItmsAt w w.heap.size A l) (hf : ∀ v ∈ l, v.x.step.fits ∧ v.x.step.path.length < 20000) (hl : l.length < 20000) :
    Calls Tryd.prog 16 #[.slice A l.length c] w fun e w' => ∃ (D : ByteArray) (E : Int), e = .returned (.tuple #[.string D, .int .i64 E]) ∧ Below w.heap.size w w' ∧ (logMay (l.map ItmV.x) = true → D = ⟨(logBytes (l.map ItmV.x)).toArray⟩ ∧ E = 0) ∧ (logMay (l.map ItmV.x) = false → E ≠ 0) := by
  refine (encode_cases w A c l h hf hl).mono ?_
  rintro e w' ⟨hb, ⟨h1, rfl⟩ | ⟨h1, E, h2, rfl⟩⟩
  · exact ⟨_, _, rfl, hb, fun _ => ⟨rfl, rfl⟩, fun h => by rw [h1] at h; cases h⟩
  · exact ⟨_, _, rfl, hb, fun h => (by rw [h1] at h; cases h), fun _ => h2⟩

set_option maxRecDepth 100000 in
set_option maxHeartbeats 4000000 in
theorem logBack_any (w : World) (A : Option Addr) (c : Nat) (l : List ItmV) (s : ByteArray) (h : ItmsAt w w.heap.size A l) (f : ∀ v ∈ l, v.x.step.fits) (hl : l.length ≤ maxLen) (hc : l.length ≤ c) (hs : s.size ≤ maxLen) (ht : Tab w) (hg : Glb w) (he : Errs w) :
    Calls Tryd.prog 7 #[.slice A l.length c, .string s] w fun e w' => e = .returned (.bool true) ∧ Below w.heap.size w w' := by
  have htl := ht.lt
  have hgl := hg.lt
  obtain ⟨hel1, hel2⟩ := he.lt
  unfold maxLen at hs
  go_enter Tryd.func7, Tryd.ntmps7
  go_wp2_with fail
  refine (llong_any w _ A c l h.1 (fun v hv => (h.2 v hv).2) hl).mono ?_
  rintro e w' ⟨b, rfl, hb, rfl⟩
  cases b
  · have HB := Lib.hid (hb rfl)
    clear hb
    by_cases h9 : 9000 < s.size
    · go_wp2_with fail
      refine (awake_any w ht).mono ?_
      rintro e w3 ⟨rfl, hb3⟩
      go_wp2
      go_ret
      exact ⟨rfl, hb3⟩
    · go_wp2_with fail
      refine (awake_any w ht).mono ?_
      rintro e w1 ⟨rfl, hb1⟩
      have i1 := h.upto hb1
      go_wp2_with fail
      refine (encode_one w1 A c l i1 (fun v hv => ⟨f v hv, HB.out.2 v hv⟩) HB.out.1).mono ?_
      rintro e w2 ⟨D, E, rfl, hb2, hyes, hno⟩
      have HW2 := Lib.hid (hb1.trans (hb2.mono hb1.size))
      have HYES := Lib.hid hyes
      have HNO := Lib.hid hno
      have HI := Lib.hid (h.upto HW2.out)
      have hlM : l.length < 20000 := HB.out.1
      clear hb1 i1 hb2 hyes hno
      go_upto_block 0 with fail
      go_cut [7, 8] from 40 to 53 (fun b _ wx => b = .bool (logMay (l.map ItmV.x)) ∧ Hid (Below w.heap.size w wx))
      case first =>
        go_wp2
        go_loopw [7, 8] (fun b i wr => ∃ (k : Nat) (q : Bool), i = .int .i64 k ∧ b = .bool q ∧ k ≤ l.length ∧ Hid (q = (decide (l.length ≤ 4096) && ((l.map ItmV.x).take k).all Itm.may)) ∧ Hid (Below w.heap.size w wr)) (fun _ i _ => l.length - (intOf i).toNat)
        case atStart => exact ⟨0, _, rfl, rfl, Nat.zero_le _, (by show _ = _; simp; omega), HW2⟩
        case round =>
          obtain ⟨k, q, rfl, rfl, hk, HQ, HW⟩ := hrel
          have HIR := Lib.hid (h.upto HW.out)
          cases q
          · have HF : Hid (false = logMay (l.map ItmV.x)) := by
              show false = _
              have e := HQ.out
              unfold logMay
              rw [List.length_map]
              cases h4 : decide (l.length ≤ 4096)
              · simp
              · rw [h4] at e
                simp only [Bool.true_and] at e ⊢
                cases ha : (l.map ItmV.x).all Itm.may
                · rfl
                · have : ((l.map ItmV.x).take k).all Itm.may = true := List.all_eq_true.2 fun x hx => List.all_eq_true.1 ha x (List.mem_of_mem_take hx)
                  rw [this] at e
                  cases e
            clear HQ
            by_cases hkn : k < l.length
            all_goals
              go_wp2
              go_meet
              case rel => exact ⟨by rw [← HF.out], HW⟩
          · by_cases hkn : k < l.length
            · obtain ⟨g, off, rfl⟩ := HIR.out.form hkn
              obtain ⟨c0, c1, c2, c3, c4, c5⟩ := HIR.out.six hkn
              have HX := Lib.hid (HIR.out.2 _ (List.getElem_mem hkn))
              have HK := Lib.hid (show ((l.map ItmV.x).take (k + 1)).all Itm.may = (((l.map ItmV.x).take k).all Itm.may && l[k].x.may) by
                rw [List.take_succ_eq_append_getElem (by simpa using hkn)]; simp)
              obtain ⟨v, hv⟩ : ∃ v, l[k] = v := ⟨_, rfl⟩
              rw [hv] at c0 c1 c2 c3 c4 c5 HX HK
              clear hv
              go_wp2_with fail
              refine (logMay_any _ _ v HX.out.1 (Nat.le_refl _) HX.out.2).mono ?_
              rintro e w5 ⟨rfl, hb5⟩
              have HW5 := Lib.hid (HW.out.trans (hb5.mono HW.out.size))
              clear hb5
              go_wp2
              go_roundw
              case rel => exact ⟨k + 1, v.x.may, by go_num, rfl, by omega, (by show _ = _; rw [HK.out, ← Bool.and_assoc, ← HQ.out]; rfl), HW5⟩
              case measure => simp [intOf]; omega
            · have HF : Hid (true = logMay (l.map ItmV.x)) := by
                show true = _
                rw [HQ.out]
                unfold logMay
                rw [List.length_map, List.take_of_length_le (by simp; omega)]
              clear HQ
              go_wp2
              go_meet
              case rel => exact ⟨by rw [← HF.out], HW⟩
      case rest =>
        obtain ⟨rfl, HW3⟩ := hcut
        have HI3 := Lib.hid (h.upto HW3.out)
        obtain ⟨m, hm⟩ : ∃ m, logMay (l.map ItmV.x) = m := ⟨_, rfl⟩
        rw [hm] at HYES HNO ⊢
        have HM := Lib.hid hm
        clear hm
        have hE : (E == 0) = m := by
          cases m
          · have := HNO.out rfl; simpa using this
          · have := (HYES.out rfl).2; simp [this]
        go_upto_if 58 with fail
        clear hE
        go_cut [9, 10] from 58 to 71 (fun _ _ wx => Hid (Below w.heap.size w wx))
        case first =>
          cases m
          · go_wp2
            go_meet
            case rel => exact HW3
          · obtain ⟨rfl, rfl⟩ := HYES.out rfl
            have HMA := Lib.hid (logMay_all HM.out f)
            have hbl := logBytes_len HMA.out
            go_wp2_with fail
            refine (decode_any wc _ (by show (logBytes _).length ≤ _; unfold maxLen; omega)).mono ?_
            rintro e w4 ⟨A4, c4, lv, rfl, hlv, hi4, hl4, hb4⟩
            have hr : readLog (logBytes (l.map ItmV.x)) = (l.map ItmV.x, 0) := by
              have := readLog_bytes (l.map ItmV.x) [] HMA.out.1 HMA.out.2
              rw [List.append_nil] at this
              exact this
            rw [show ((⟨(logBytes (l.map ItmV.x)).toArray⟩ : ByteArray).data.toList) = logBytes (l.map ItmV.x) from rfl, hr] at hlv ⊢
            dsimp only at hlv ⊢
            have HLV := Lib.hid hlv
            have HI4 := Lib.hid hi4
            have HW4 := Lib.hid (HW3.out.trans (hb4.mono HW3.out.size))
            clear hlv hi4 hl4 hb4 hr
            go_wp2_with fail
            refine (logSame_any w4 A A4 c c4 l lv (h.upto HW4.out) HI4.out hl (by have := congrArg List.length HLV.out; simp at this; rw [this]; exact hl)).mono ?_
            rintro e w5 ⟨rfl, hb5⟩
            rw [HLV.out, (itmsEq_iff _ _).2 rfl]
            have HW5 := Lib.hid (HW4.out.trans (hb5.mono HW4.out.size))
            clear hb5
            go_wp2
            go_meet
            case rel => exact HW5
        case rest =>
          have HW5 := hcut
          clear hcut HYES HNO HM HI HI3
          go_upto_block 2 with fail
          go_cut [11, 12, 13] from 72 to 113 (fun _ _ _ wx => Hid (Below w.heap.size w wx))
          case first =>
            go_wp2
            go_loopw [11] (fun i wr => ∃ (k : Nat), i = .int .i64 k ∧ k ≤ l.length ∧ Hid (Below w.heap.size w wr)) (fun i _ => l.length - (intOf i).toNat)
            case atStart => exact ⟨0, rfl, Nat.zero_le _, HW5⟩
            case round =>
              obtain ⟨k, rfl, hk, HW⟩ := hrel
              clear HW5 HW3 HW2
              by_cases hkn : k < l.length
              · by_cases h50 : k < 50
                · have HIR := Lib.hid (h.upto HW.out)
                  obtain ⟨g, off, rfl⟩ := HIR.out.form hkn
                  obtain ⟨c0, c1, c2, c3, c4, c5⟩ := HIR.out.six hkn
                  have HX := Lib.hid (HIR.out.2 _ (List.getElem_mem hkn))
                  have HFI := Lib.hid (f _ (List.getElem_mem hkn))
                  have HONE := Lib.hid (fun (B : Nat) (wx : World) (hx : ItmsAt wx B (some ⟨g, off, none⟩) l) => And.intro (hx.one hkn) (hx.six hkn))
                  obtain ⟨v, hv⟩ : ∃ v, l[k] = v := ⟨_, rfl⟩
                  rw [hv] at c0 c1 c2 c3 c4 c5 HX HFI HONE
                  clear hv
                  go_wp2_with fail
                  refine (logShow_any wr v HX.out.1 HFI.out (ht.below HW.out htl)).mono ?_
                  rintro e w5 ⟨rfl, hb5⟩
                  have HB5 := Lib.hid (HW.out.trans (hb5.mono HW.out.size))
                  clear hb5
                  cases hm : v.x.may
                  · have HMV := Lib.hid hm
                    clear hm
                    go_wp2_with fail
                    refine (read_no w5 v.x HMV.out (hg.below HB5.out hgl) (ht.below HB5.out htl) (he.below HB5.out hel1 hel2)).mono ?_
                    rintro e w6 ⟨rfl, hb6⟩
                    have HB6 := Lib.hid (HB5.out.trans (hb6.mono HB5.out.size))
                    clear hb6 c0 c1 c2 c3 c4 c5
                    unfold ItmV.val
                    dsimp only [Stp.zero, List.length_nil]
                    go_upto_region 19 with fail
                    have hB0 : BInv w (some ⟨g, off, none⟩) l w6.heap.size ⟨⟨false, Stp.zero⟩, none, 0⟩ (w6.alloc (.cells #[.bool false, .int .u8 0, .int .u8 0, .int .i64 0, .slice none 0 0, .int .i64 0] 57)) :=
                      ⟨h.upto (HB6.out.alloc HB6.out.size _), Blk.new_ _ _ _, ⟨rfl, fun h => absurd h (by simp [Stp.zero])⟩, HB6.out.alloc HB6.out.size _⟩
                    have hkI : (k : Int) < (l.length : Int) := by omega
                    refine region_free (BInv w (some ⟨g, off, none⟩) l w6.heap.size ⟨⟨false, Stp.zero⟩, none, 0⟩) (fun | 6 => some (constS (.bool false)) | 13 => some (boxS ⟨⟨false, Stp.zero⟩, none, 0⟩) | 19 => some (constS (.bool true)) | _ => none) (by kernel_rfl) (by decide +kernel) (by decide +kernel) (by decide +kernel) (fun k s hs => ?_) (fun _ _ h hb => h.below hb) (hB0.below (Below.refl _ _).drew) ?_
                    · split at hs <;> cases hs
                      · exact constS_ok _
                      · exact boxS_ok _
                      · exact constS_ok _
                    simp only [idx, Nat.reduceAdd]
                    iterate 6
                      refine w_pure (by kernel_rfl) rfl ?_
                      apply Exists.intro
                      refine And.intro (fun w4 hC hF => ?_) ?_
                      (focus (have hcl := HONE.out _ _ hC.i; obtain ⟨_, c0, c1, c2, c3, c4, c5⟩ := hcl; obtain ⟨b0, b1, b2, b3, b4, b5⟩ := hC.six; clear hC hF; unfold gives; go_simp; try with_reducible rfl))
                      simp only [Act.put, List.setIfInBounds_toArray, List.set_cons_zero, List.set_cons_succ]
                    refine w_free (by kernel_rfl) rfl (fun w4 hC hF hG => ?_) ?_
                    · unfold does
                      go_simp
                      have hmay := logMay_any w4 _ v ((HONE.out _ _ hC.i).1.2 v (by simp)).1 (Nat.le_refl _) HX.out.2
                      rw [HMV.out] at hmay
                      exact constS_call hmay
                    intro v6 hv6
                    obtain rfl := (show v6 = _ from hv6)
                    simp only [Act.put, List.setIfInBounds_toArray, List.set_cons_zero, List.set_cons_succ]
                    iterate 5
                      refine w_pure (by kernel_rfl) rfl ?_
                      apply Exists.intro
                      refine And.intro (fun w4 hC hF => ?_) ?_
                      (focus (have hcl := HONE.out _ _ hC.i; obtain ⟨_, c0, c1, c2, c3, c4, c5⟩ := hcl; obtain ⟨b0, b1, b2, b3, b4, b5⟩ := hC.six; clear hC hF; unfold gives; go_simp; try with_reducible rfl))
                      simp only [Act.put, List.setIfInBounds_toArray, List.set_cons_zero, List.set_cons_succ]
                    iterate 9
                      refine w_skip (by kernel_rfl) ?_
                      simp only [Act.put, List.setIfInBounds_toArray, List.set_cons_zero, List.set_cons_succ]
                    iterate 2
                      refine w_pure (by kernel_rfl) rfl ?_
                      apply Exists.intro
                      refine And.intro (fun w4 hC hF => ?_) ?_
                      (focus (have hcl := HONE.out _ _ hC.i; obtain ⟨_, c0, c1, c2, c3, c4, c5⟩ := hcl; obtain ⟨b0, b1, b2, b3, b4, b5⟩ := hC.six; clear hC hF; unfold gives; go_simp; try with_reducible rfl))
                      simp only [Act.put, List.setIfInBounds_toArray, List.set_cons_zero, List.set_cons_succ]
                    refine w_end (fun w7 hC hF hG => ?_)
                    have HB7 := Lib.hid hC.bel
                    clear hC hF hG hB0
                    go_wp2
                    go_roundw
                    case rel => exact ⟨k + 1, by go_num, by omega, HB7⟩
                    case measure => simp [intOf]; omega
                  · have HMV := Lib.hid hm
                    clear hm
                    go_wp2_with fail
                    refine (read_yes w5 v.x HMV.out ⟨HFI.out.1, HFI.out.2.1⟩ (hg.below HB5.out hgl) (ht.below HB5.out htl) (he.below HB5.out hel1 hel2)).mono ?_
                    rintro e w6 ⟨vv, hvv, rfl, hrd6, hb6⟩
                    have HB6 := Lib.hid (HB5.out.trans (hb6.mono HB5.out.size))
                    have HVV := Lib.hid hvv
                    have HRD6 := Lib.hid hrd6
                    clear hvv hrd6 hb6 c0 c1 c2 c3 c4 c5
                    unfold ItmV.val
                    go_upto_region 19 with fail
                    have hB0 : BInv w (some ⟨g, off, none⟩) l w6.heap.size vv (w6.alloc (.cells #[.bool vv.x.mark, .int .u8 vv.x.step.pass, .int .u8 vv.x.step.way, .int .i64 vv.x.step.rule, .slice vv.A vv.x.step.path.length vv.c, .int .i64 vv.x.step.at_] 57)) :=
                      ⟨h.upto (HB6.out.alloc HB6.out.size _), Blk.new_ _ _ _, (HRD6.out.alloc (Nat.le_refl _) _).more (by simp), HB6.out.alloc HB6.out.size _⟩
                    have hkI : (k : Int) < (l.length : Int) := by omega
                    have hkC : (k : Int) + 1 ≤ (c : Int) := by omega
                    have hck : ¬ c = k := by omega
                    refine region_free (BInv w (some ⟨g, off, none⟩) l w6.heap.size vv) (fun | 6 => some (constS (.bool true)) | 13 => some (boxS vv) | 19 => some (constS (.bool true)) | _ => none) (by kernel_rfl) (by decide +kernel) (by decide +kernel) (by decide +kernel) (fun k s hs => ?_) (fun _ _ h hb => h.below hb) (hB0.below (Below.refl _ _).drew) ?_
                    · split at hs <;> cases hs
                      · exact constS_ok _
                      · exact boxS_ok _
                      · exact constS_ok _
                    simp only [idx, Nat.reduceAdd]
                    iterate 6
                      refine w_pure (by kernel_rfl) rfl ?_
                      apply Exists.intro
                      refine And.intro (fun w4 hC hF => ?_) ?_
                      (focus (have hcl := HONE.out _ _ hC.i; obtain ⟨_, c0, c1, c2, c3, c4, c5⟩ := hcl; obtain ⟨b0, b1, b2, b3, b4, b5⟩ := hC.six; clear hC hF; unfold gives; go_simp; try with_reducible rfl))
                      simp only [Act.put, List.setIfInBounds_toArray, List.set_cons_zero, List.set_cons_succ]
                    refine w_free (by kernel_rfl) rfl (fun w4 hC hF hG => ?_) ?_
                    · unfold does
                      go_simp
                      have hmay := logMay_any w4 _ v ((HONE.out _ _ hC.i).1.2 v (by simp)).1 (Nat.le_refl _) HX.out.2
                      rw [HMV.out] at hmay
                      exact constS_call hmay
                    intro v6 hv6
                    obtain rfl := (show v6 = _ from hv6)
                    simp only [Act.put, List.setIfInBounds_toArray, List.set_cons_zero, List.set_cons_succ]
                    iterate 5
                      refine w_pure (by kernel_rfl) rfl ?_
                      apply Exists.intro
                      refine And.intro (fun w4 hC hF => ?_) ?_
                      (focus (have hcl := HONE.out _ _ hC.i; obtain ⟨_, c0, c1, c2, c3, c4, c5⟩ := hcl; obtain ⟨b0, b1, b2, b3, b4, b5⟩ := hC.six; clear hC hF; unfold gives; go_simp; try with_reducible rfl))
                      simp only [Act.put, List.setIfInBounds_toArray, List.set_cons_zero, List.set_cons_succ]
                    iterate 1
                      refine w_pure (by kernel_rfl) rfl ?_
                      apply Exists.intro
                      refine And.intro (fun w4 hC hF => ?_) ?_
                      (focus (have hcl := HONE.out _ _ hC.i; obtain ⟨_, c0, c1, c2, c3, c4, c5⟩ := hcl; obtain ⟨b0, b1, b2, b3, b4, b5⟩ := hC.six; clear hC hF; unfold gives; go_simp; try with_reducible rfl))
                      simp only [Act.put, List.setIfInBounds_toArray, List.set_cons_zero, List.set_cons_succ]
                    refine w_free (by kernel_rfl) rfl (fun w4 hC hF hG => ?_) ?_
                    · unfold does
                      go_simp
                      exact ⟨⟨_, rfl⟩, ⟨_, rfl, Blk.new_ _ _ _⟩, (fun g hg => by cases hg; simp), (Below.refl _ _).alloc (Nat.le_refl _) _⟩
                    rintro v13 ⟨gb, rfl⟩
                    simp only [Act.put, List.setIfInBounds_toArray, List.set_cons_zero, List.set_cons_succ]
                    iterate 4
                      refine w_pure (by kernel_rfl) rfl ?_
                      apply Exists.intro
                      refine And.intro (fun w4 hC hF => ?_) ?_
                      (focus (have hcl := HONE.out _ _ hC.i; obtain ⟨_, c0, c1, c2, c3, c4, c5⟩ := hcl; obtain ⟨b0, b1, b2, b3, b4, b5⟩ := hC.six; clear hC hF; unfold gives; go_simp; try with_reducible rfl))
                      simp only [Act.put, List.setIfInBounds_toArray, List.set_cons_zero, List.set_cons_succ]
                    refine w_pure (by kernel_rfl) rfl ⟨.slice (some ⟨g, off + k * 6, none⟩) 1 (c - k), fun w4 hC hF => ?_, ?_⟩
                    · have hwk : IntKind.i64.wrap ((k : Int) + 1) = ((k + 1 : Nat) : Int) := by rw [IntKind.wrap_i64]; omega
                      unfold gives
                      go_simp
                      intro hneg
                      omega
                    simp only [Act.put, List.setIfInBounds_toArray, List.set_cons_zero, List.set_cons_succ]
                    refine w_free (by kernel_rfl) rfl (fun w4 hC hF hG => ?_) ?_
                    · unfold does
                      go_simp
                      have h13 : (boxS vv).R (.slice (some ⟨gb, 0, none⟩) 1 1) w4 := hF 13 (by decide +kernel)
                      obtain ⟨_, e, hbx⟩ := h13
                      cases e
                      have hsm := logSame_any w4 (some ⟨gb, 0, none⟩) (some ⟨g, off + k * 6, none⟩) 1 (c - k) [vv] [v] (ItmsAt.box hbx hC.r (by rw [HVV.out]; exact HX.out.2)) (HONE.out _ _ hC.i).1 (by simp [maxLen]) (by simp [maxLen])
                      rw [show itmsEq ([vv].map ItmV.x) ([v].map ItmV.x) = true from (itmsEq_iff _ _).2 (by simp [HVV.out])] at hsm
                      exact constS_call hsm
                    intro v19 hv19
                    obtain rfl := (show v19 = _ from hv19)
                    simp only [Act.put, List.setIfInBounds_toArray, List.set_cons_zero, List.set_cons_succ]
                    iterate 3
                      refine w_pure (by kernel_rfl) rfl ?_
                      apply Exists.intro
                      refine And.intro (fun w4 hC hF => ?_) ?_
                      (focus (have hcl := HONE.out _ _ hC.i; obtain ⟨_, c0, c1, c2, c3, c4, c5⟩ := hcl; obtain ⟨b0, b1, b2, b3, b4, b5⟩ := hC.six; clear hC hF; unfold gives; go_simp; try with_reducible rfl))
                      simp only [Act.put, List.setIfInBounds_toArray, List.set_cons_zero, List.set_cons_succ]
                    refine w_end (fun w7 hC hF hG => ?_)
                    have HB7 := Lib.hid hC.bel
                    clear hC hF hG hB0
                    go_wp2
                    go_roundw
                    case rel => exact ⟨k + 1, by go_num, by omega, HB7⟩
                    case measure => simp [intOf]; omega
                · go_wp2
                  go_meet
                  case rel => exact HW
              · go_wp2
                go_meet
                case rel => exact HW
          case rest =>
            have HW6 := hcut
            clear hcut HW5 HW3 HW2
            clear hlM HB h f hl hc
            go_wp2_with fail
            refine (decode_any wc s hs).mono ?_
            rintro e w7 ⟨A4, c4, lv, rfl, hlv, hi7, h32, hb7⟩
            have HW7 := Lib.hid (HW6.out.trans (hb7.mono HW6.out.size))
            have HLV := Lib.hid hlv
            have HI7 := Lib.hid hi7
            obtain ⟨R, hR⟩ : ∃ R, (readLog s.data.toList).2 = R := ⟨_, rfl⟩
            rw [hR]
            have HR := Lib.hid hR
            clear hb7 hlv hi7 h32 hR HW6
            go_upto_if 120 with fail
            go_cut [16, 17] from 120 to 132 (fun _ _ wx => Hid (Below w.heap.size w wx))
            case first =>
              by_cases hz : R = 0
              · subst hz
                have hrb := readLog_back HR.out
                have hall : ∀ v ∈ lv, v.x.may = true ∧ v.x.narrow := fun v hv => hrb.2.1 _ (by rw [← HLV.out]; exact List.mem_map_of_mem hv)
                have hlen : lv.length ≤ 4096 := by have := hrb.1; rw [← HLV.out, List.length_map] at this; exact this
                have hmay : logMay (lv.map ItmV.x) = true := by
                  unfold logMay
                  simp only [Bool.and_eq_true, decide_eq_true_eq, List.all_eq_true, List.length_map]
                  exact ⟨hlen, fun x hx => by obtain ⟨v, hv, rfl⟩ := List.mem_map.1 hx; exact (hall v hv).1⟩
                have hst : (⟨(logBytes (lv.map ItmV.x)).toArray⟩ : ByteArray) = s := by rw [HLV.out, hrb.2.2]
                have HALL := Lib.hid hall
                have HMAY := Lib.hid hmay
                have HST := Lib.hid hst
                clear hrb hall hmay hst
                go_wp2_with fail
                refine (encode_one w7 A4 c4 lv HI7.out (fun v hv => ⟨(may_fits (HALL.out v hv).1 (HALL.out v hv).2).1, by have := (may_fits (HALL.out v hv).1 (HALL.out v hv).2).2; omega⟩) (by omega)).mono ?_
                rintro e w8 ⟨D2, E2, rfl, hb8, hyes, _⟩
                obtain ⟨rfl, rfl⟩ := hyes HMAY.out
                rw [HST.out]
                have HW8 := Lib.hid (HW7.out.trans (hb8.mono HW7.out.size))
                clear hb8 hyes
                go_wp2
                go_meet
                case rel => exact HW8
              · have hz' : ((R : Int) == 0) = false := by simpa using hz
                clear hz
                go_wp2
                go_meet
                case rel => exact HW7
            case rest =>
              have HW9 := hcut
              rename_i w9
              clear hcut HW7 HLV HI7 HR
              go_wp2_with fail
              refine (read_text _ s (by omega) (hg.below HW9.out hgl) (ht.below HW9.out htl) (he.below HW9.out hel1 hel2)).mono ?_
              rintro e w10 ⟨hb10, hc10⟩
              have HW10 := Lib.hid (HW9.out.trans (hb10.mono HW9.out.size))
              clear hb10
              rcases hc10 with ⟨v, hmay, hshow, rfl, hrd, hfits⟩ | rfl
              · have HMAY := Lib.hid hmay
                have hst : (⟨(showItm v.x).toArray⟩ : ByteArray) = s := by rw [hshow]
                have HST := Lib.hid hst
                have HRD := Lib.hid (hrd.alloc (Nat.le_refl _) (.cells #[.bool v.x.mark, .int .u8 v.x.step.pass, .int .u8 v.x.step.way, .int .i64 v.x.step.rule, .slice v.A v.x.step.path.length v.c, .int .i64 v.x.step.at_] 57))
                have HF := Lib.hid hfits
                have bx := Blk.new_ w10 57 #[.bool v.x.mark, .int .u8 v.x.step.pass, .int .u8 v.x.step.way, .int .i64 v.x.step.rule, .slice v.A v.x.step.path.length v.c, .int .i64 v.x.step.at_]
                have HW11 := Lib.hid (HW10.out.alloc HW10.out.size (.cells #[.bool v.x.mark, .int .u8 v.x.step.pass, .int .u8 v.x.step.way, .int .i64 v.x.step.rule, .slice v.A v.x.step.path.length v.c, .int .i64 v.x.step.at_] 57))
                clear hmay hshow hst hrd hfits
                unfold ItmV.val
                go_wp2_with fail
                refine (logShow_any _ v (HRD.out.more (by simp)) HF.out (ht.below HW11.out htl)).mono ?_
                rintro e w12 ⟨rfl, hb12⟩
                rw [HST.out]
                have bx12 := bx.below hb12 bx.lt
                obtain ⟨⟨q0, q1, q2, q3, q4, q5⟩, _⟩ := bx12.six
                have HRD12 := Lib.hid (Reads.below HRD.out (hb12.mono (by simp)))
                have HW12 := Lib.hid (HW11.out.trans (hb12.mono HW11.out.size))
                have hz12 := hb12.size
                clear hb12 bx bx12
                go_wp2_with fail
                refine (logMay_any w12 _ v HRD12.out (by simp at hz12; omega) HF.out.2.2.2.2.1).mono ?_
                rintro e w13 ⟨rfl, hb13⟩
                rw [HMAY.out]
                have HW13 := Lib.hid (HW12.out.trans (hb13.mono HW12.out.size))
                clear hb13
                go_wp2
                go_ret
                exact ⟨rfl, HW13.out⟩
              · unfold ItmV.val
                dsimp only [Stp.zero, List.length_nil]
                go_wp2
                go_ret
                exact ⟨rfl, HW10.out.alloc HW10.out.size _⟩
  · go_wp2_with fail
    refine (awake_any w ht).mono ?_
    rintro e w3 ⟨rfl, hb3⟩
    go_wp2
    go_ret
    exact ⟨rfl, hb3⟩
end Go.Proofs.YtnmnbefbadhkgaaDoor
