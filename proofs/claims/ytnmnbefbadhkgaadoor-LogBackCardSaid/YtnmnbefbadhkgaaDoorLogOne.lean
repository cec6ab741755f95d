/-
  WALK: the law LogOne.
-/
import Derived.Test.YtnmnbefbadhkgaaDoorLogAwake
import Derived.Test.YtnmnbefbadhkgaaDoorLogLaw
namespace Go.Proofs.YtnmnbefbadhkgaaDoor
open Go Go.RowKit

theorem ItmsAt.upto {w w' : World} {A : Option Addr} {l : List ItmV} (h : ItmsAt w w.heap.size A l) (hb : Below w.heap.size w w') : ItmsAt w' w'.heap.size A l :=
  ⟨(h.1.below hb).more hb.size, fun x hx => ⟨(Reads.below (h.2 x hx).1 hb).more hb.size, (h.2 x hx).2⟩⟩

/-- Encode, where a log may be, and where not. -/
theorem encode_cases (w : World) (A : Option Addr) (c : Nat) (l : List ItmV) (h : ItmsAt w w.heap.size A l) (hf : ∀ v ∈ l, v.x.step.fits ∧ v.x.step.path.length < 20000) (hl : l.length < 20000) :
    Calls Tryd.prog 16 #[.slice A l.length c] w fun e w' => Below w.heap.size w w' ∧
      ((logMay (l.map ItmV.x) = true ∧ e = .returned (.tuple #[.string ⟨(logBytes (l.map ItmV.x)).toArray⟩, .int .i64 0])) ∨ (logMay (l.map ItmV.x) = false ∧ ∃ E : Int, E ≠ 0 ∧ e = .returned (.tuple #[.string ⟨#[]⟩, .int .i64 E]))) := by
  refine (encode_any w A c l h hf hl).mono ?_
  rintro e w' ⟨s, rfl, hs, hb⟩
  refine ⟨hb, ?_⟩
  rw [bytes_eq hs]
  unfold encodeS logMay
  by_cases h1 : 4096 < (l.map ItmV.x).length
  · exact .inr ⟨by rw [decide_eq_false (by omega)]; simp, 40, by omega, by rw [if_pos h1]⟩
  · by_cases h2 : (l.map ItmV.x).all Itm.may = true
    · exact .inl ⟨by rw [h2]; simp; simp at h1; omega, by rw [if_neg h1, if_pos h2]⟩
    · exact .inr ⟨by simp only [Bool.and_eq_false_iff]; exact .inr (by simpa using h2), 4, by omega, by rw [if_neg h1, if_neg h2]⟩
theorem logMay_all {l : List ItmV} (h : logMay (l.map ItmV.x) = true) (hf : ∀ v ∈ l, v.x.step.fits) : (l.map ItmV.x).length ≤ 4096 ∧ ∀ x ∈ l.map ItmV.x, x.may = true ∧ x.narrow := by
  unfold logMay at h
  simp only [Bool.and_eq_true, decide_eq_true_eq, List.all_eq_true] at h
  refine ⟨h.1, fun x hx => ⟨h.2 x hx, ?_⟩⟩
  obtain ⟨v, hv, rfl⟩ := List.mem_map.1 hx
  exact ⟨(hf v hv).1, (hf v hv).2.1⟩
theorem wrongS_pre {l : List Itm} (h : l.length ≤ 4096 ∧ ∀ x ∈ l, x.may = true ∧ x.narrow) {k : Nat} (hk : k < (logBytes l).length) : wrongS ((logBytes l).take k) = 8 := by
  unfold wrongS
  rw [readLog_pre l ((logBytes l).take k) ((logBytes l).drop k) (by intro e; have := congrArg List.length e; simp at this; omega) h.1 h.2 (List.take_append_drop k _).symm]
  rfl
theorem wrongS_long {l : List Itm} (h : l.length ≤ 4096 ∧ ∀ x ∈ l, x.may = true ∧ x.narrow) : wrongS (logBytes l ++ [120]) = 10 := by
  unfold wrongS
  rw [readLog_bytes l [120] h.1 h.2]
  rfl

theorem mayBytes_len {x : Itm} (h : x.may = true) : x.bytes.length ≤ 400 := by
  cases hm : x.mark
  · obtain ⟨_, _, _, h4, _⟩ := may_step h hm
    unfold Itm.bytes
    rw [hm]
    have e : ∀ n, (enc n).length ≤ 10 := encF_le 10
    have hp : (x.step.path.flatMap fun n => enc n.toNat).length ≤ x.step.path.length * 10 := by
      induction x.step.path with
      | nil => simp
      | cons a l ih => rw [List.flatMap_cons, List.length_append, List.length_cons]; have := e a.toNat; omega
    have a1 := e x.step.pass
    have a2 := e x.step.way
    have a3 := e x.step.rule.toNat
    have a4 := e x.step.path.length
    have a5 := e x.step.at_.toNat
    simp only [Bool.false_eq_true, if_false, List.length_append]
    omega
  · unfold Itm.bytes
    rw [hm]
    have : (enc 0).length ≤ 10 := encF_le 10 0
    simp only [if_true]
    omega
theorem logBytes_len {l : List Itm} (h : l.length ≤ 4096 ∧ ∀ x ∈ l, x.may = true ∧ x.narrow) : (logBytes l).length ≤ 2000000 := by
  have e : (enc l.length).length ≤ 10 := encF_le 10 _
  have hp : ∀ l : List Itm, (∀ x ∈ l, x.may = true ∧ x.narrow) → (l.flatMap Itm.bytes).length ≤ l.length * 400 := by
    intro l
    induction l with
    | nil => simp
    | cons a l ih =>
      intro h
      have a1 := mayBytes_len (h a (by simp)).1
      have a2 := ih fun x hx => h x (by simp [hx])
      rw [List.flatMap_cons, List.length_append, List.length_cons]
      omega
  have := hp l h.2
  have := h.1
  unfold logBytes
  rw [List.length_append]
  omega
theorem wrap_len {n : Nat} (h : n ≤ 2000000) : IntKind.u64.wrap (n : Int) = (n : Int) := by
  simp only [IntKind.wrap, IntKind.signed, IntKind.bits]
  simp
  omega
theorem rem_small (k : Int) (n : Nat) (h0 : 0 < n) (h : n ≤ 2000000) : ∃ r : Nat, r < n ∧ wrap64 ((IntKind.u64.wrap k).tmod (n : Int)) = (r : Int) := by
  have hk : 0 ≤ IntKind.u64.wrap k := by
    simp only [IntKind.wrap, IntKind.signed, IntKind.bits]
    simp
    omega
  obtain ⟨K, hK⟩ := Int.eq_ofNat_of_zero_le hk
  rw [hK]
  refine ⟨K % n, Nat.mod_lt _ h0, ?_⟩
  have := Nat.mod_lt K h0
  rw [show (K : Int).tmod (n : Int) = ((K % n : Nat) : Int) from rfl]
  unfold wrap64
  omega
theorem extract_self (bs : List UInt8) : ((⟨bs.toArray⟩ : ByteArray).extract 0 bs.length).toList = bs := by
  rw [ByteArray.toList_eq]
  simp
theorem cut_eq {bs cs : List UInt8} (e : ((⟨cs.toArray⟩ : ByteArray).extract 0 bs.length).toList = bs) : cs = bs ++ cs.drop bs.length := by
  rw [ByteArray.toList_eq] at e
  have e' : cs.take bs.length = bs := by simpa using e
  conv => lhs; rw [← List.take_append_drop bs.length cs]
  rw [e']
theorem wrong_cut (w : World) (bs : List UInt8) (r : Nat) (_hr : r < bs.length) (hl : bs.length ≤ 2000000) (hw : wrongS (bs.take r) = 8) :
    Calls Tryd.prog 18 #[.string ((⟨bs.toArray⟩ : ByteArray).extract 0 r)] w fun e w' => e = .returned (.int .i64 8) ∧ Below w.heap.size w w' := by
  have hd : ((⟨bs.toArray⟩ : ByteArray).extract 0 r).data.toList = bs.take r := by simp
  have hs : ((⟨bs.toArray⟩ : ByteArray).extract 0 r).size ≤ maxLen := by
    have : ((⟨bs.toArray⟩ : ByteArray).extract 0 r).data.toList.length = _ := congrArg List.length hd
    simp at this
    unfold maxLen
    simp
    omega
  have := wrong_any w _ hs
  rw [hd, hw] at this
  exact this
theorem wrong_more (w : World) (bs : List UInt8) (hl : bs.length ≤ 2000000) (hw : wrongS (bs ++ [120]) = 10) :
    Calls Tryd.prog 18 #[.string (⟨bs.toArray⟩ ++ ⟨#[120]⟩)] w fun e w' => e = .returned (.int .i64 10) ∧ Below w.heap.size w w' := by
  have hd : ((⟨bs.toArray⟩ : ByteArray) ++ ⟨#[120]⟩).data.toList = bs ++ [120] := by simp
  have hs : ((⟨bs.toArray⟩ : ByteArray) ++ ⟨#[120]⟩).size ≤ maxLen := by
    have : ((⟨bs.toArray⟩ : ByteArray) ++ ⟨#[120]⟩).data.toList.length = _ := congrArg List.length hd
    simp at this
    unfold maxLen
    simp
    show bs.length + 1 ≤ _
    omega
  have := wrong_any w _ hs
  rw [hd, hw] at this
  exact this

set_option maxRecDepth 100000 in
set_option maxHeartbeats 4000000 in
theorem one_any (w : World) (A1 A2 : Option Addr) (c1 c2 : Nat) (l m : List ItmV) (k : Int) (h1 : ItmsAt w w.heap.size A1 l) (h2 : ItmsAt w w.heap.size A2 m) (f1 : ∀ v ∈ l, v.x.step.fits) (f2 : ∀ v ∈ m, v.x.step.fits) (hl : l.length ≤ maxLen) (hm : m.length ≤ maxLen) (_hk : isI64 k) (ht : Tab w) :
    Calls Tryd.prog 4 #[.slice A1 l.length c1, .slice A2 m.length c2, .int .i64 k] w fun e w' => e = .returned (.bool true) ∧ Below w.heap.size w w' := by
  go_enter Tryd.func4, Tryd.ntmps4
  go_wp2_with fail
  refine (llong_any w _ A1 c1 l h1.1 (fun v hv => (h1.2 v hv).2) hl).mono ?_
  rintro e w' ⟨b, rfl, hb, rfl⟩
  cases b
  · have HB := Lib.hid (hb rfl)
    clear hb
    go_wp2_with fail
    refine (llong_any w _ A2 c2 m h2.1 (fun v hv => (h2.2 v hv).2) hm).mono ?_
    rintro e w' ⟨b, rfl, hb2, rfl⟩
    cases b
    · have HB2 := Lib.hid (hb2 rfl)
      clear hb2
      go_wp2_with fail
      refine (awake_any w ht).mono ?_
      rintro e w1 ⟨rfl, hb1⟩
      have i1 := h1.upto hb1
      have i2 := h2.upto hb1
      have HW1 := Lib.hid hb1
      clear hb1 h1 h2 hl hm
      go_wp2_with fail
      refine (encode_cases w1 A1 c1 l i1 (fun v hv => ⟨f1 v hv, HB.out.2 v hv⟩) HB.out.1).mono ?_
      rintro e w2 ⟨hb2, hc⟩
      have HW2 := Lib.hid (HW1.out.trans (hb2.mono HW1.out.size))
      have I1 := Lib.hid (i1.upto hb2)
      have I2 := Lib.hid (i2.upto hb2)
      clear hb2 i1 i2
      rcases hc with ⟨hmay, rfl⟩ | ⟨hmay, E, hE, rfl⟩
      · have HM1 := Lib.hid hmay
        clear hmay
        go_wp2_with fail
        refine (encode_cases w2 A2 c2 m I2.out (fun v hv => ⟨f2 v hv, HB2.out.2 v hv⟩) HB2.out.1).mono ?_
        rintro e w3 ⟨hb3, hc⟩
        have HW3 := Lib.hid (HW2.out.trans (hb3.mono HW2.out.size))
        have J1 := Lib.hid (I1.out.upto hb3)
        have J2 := Lib.hid (I2.out.upto hb3)
        clear hb3
        rcases hc with ⟨hmay, rfl⟩ | ⟨hmay, E, hE, rfl⟩
        · have HA1 := Lib.hid (logMay_all HM1.out f1)
          have HA2 := Lib.hid (logMay_all hmay f2)
          clear hmay
          have hnz : 0 < (logBytes (l.map ItmV.x)).length := by
            have := enc_ne (l.map ItmV.x).length
            unfold logBytes
            rw [List.length_append]
            have := List.length_pos_iff.2 this
            omega
          obtain ⟨bs, hbs⟩ : ∃ bs, logBytes (l.map ItmV.x) = bs := ⟨_, rfl⟩
          obtain ⟨cs, hcs⟩ : ∃ bs, logBytes (m.map ItmV.x) = bs := ⟨_, rfl⟩
          rw [hbs] at hnz ⊢
          rw [hcs]
          have HBS := Lib.hid hbs
          have HCS := Lib.hid hcs
          clear hbs hcs
          go_wp2_with fail
          refine (logSame_any w3 A1 A2 c1 c2 l m J1.out J2.out (by have := HB.out.1; unfold maxLen; omega) (by have := HB2.out.1; unfold maxLen; omega)).mono ?_
          rintro e w4 ⟨rfl, hb4⟩
          have HW4 := Lib.hid (HW3.out.trans (hb4.mono HW3.out.size))
          clear hb4
          have hbl : bs.length ≤ 2000000 := by
            rw [← HBS.out]
            exact logBytes_len HA1.out
          have HX := Lib.hid (wrongS_long HA1.out)
          obtain ⟨r, hr, hrk⟩ := rem_small k bs.length hnz hbl
          have HP := Lib.hid (wrongS_pre HA1.out (k := r) (by rw [HBS.out]; exact hr))
          rw [HBS.out] at HX HP
          have hwl : IntKind.u64.wrap (bs.length : Int) = (bs.length : Int) := wrap_len hbl
          by_cases hLM : l.map ItmV.x = m.map ItmV.x
          · have hq : itmsEq (l.map ItmV.x) (m.map ItmV.x) = true := (itmsEq_iff _ _).2 hLM
            rw [hq]
            have hbc : bs = cs := by rw [← HBS.out, ← HCS.out, hLM]
            subst hbc
            have hself := extract_self bs
            clear hLM hq
            go_wp2_with fail
            refine (wrong_cut w4 bs r hr hbl HP.out).mono ?_
            rintro e w5 ⟨rfl, hb5⟩
            have HW5 := Lib.hid (HW4.out.trans (hb5.mono HW4.out.size))
            clear hb5
            go_wp2_with fail
            refine (wrong_more w5 bs hbl HX.out).mono ?_
            rintro e w6 ⟨rfl, hb6⟩
            have HW6 := Lib.hid (HW5.out.trans (hb6.mono HW5.out.size))
            clear hb6
            go_wp2
            go_ret
            exact ⟨rfl, HW6.out⟩
          · have hq : itmsEq (l.map ItmV.x) (m.map ItmV.x) = false := by
              cases h : itmsEq (l.map ItmV.x) (m.map ItmV.x)
              · rfl
              · exact absurd ((itmsEq_iff _ _).1 h) hLM
            rw [hq]
            have hne : ¬ bs = cs := fun e => hLM (logBytes_inj _ _ HA1.out.1 HA2.out.1 HA1.out.2 HA2.out.2 (by rw [HBS.out, HCS.out, e]))
            have hne2 : (bs == cs) = false := by simpa using hne
            by_cases hle : bs.length ≤ cs.length
            · have hcut : ¬ ((⟨cs.toArray⟩ : ByteArray).extract 0 bs.length).toList = bs := fun e => hLM (logBytes_pre _ _ HA1.out.1 HA2.out.1 HA1.out.2 HA2.out.2 (cs.drop bs.length) (by rw [HBS.out, HCS.out]; exact cut_eq e))
              clear hLM hq
              go_wp2_with fail
              refine (wrong_cut w4 bs r hr hbl HP.out).mono ?_
              rintro e w5 ⟨rfl, hb5⟩
              have HW5 := Lib.hid (HW4.out.trans (hb5.mono HW4.out.size))
              clear hb5
              go_wp2_with fail
              refine (wrong_more w5 bs hbl HX.out).mono ?_
              rintro e w6 ⟨rfl, hb6⟩
              have HW6 := Lib.hid (HW5.out.trans (hb6.mono HW5.out.size))
              clear hb6
              go_wp2
              go_ret
              exact ⟨rfl, HW6.out⟩
            · clear hLM hq
              go_wp2_with fail
              refine (wrong_cut w4 bs r hr hbl HP.out).mono ?_
              rintro e w5 ⟨rfl, hb5⟩
              have HW5 := Lib.hid (HW4.out.trans (hb5.mono HW4.out.size))
              clear hb5
              go_wp2_with fail
              refine (wrong_more w5 bs hbl HX.out).mono ?_
              rintro e w6 ⟨rfl, hb6⟩
              have HW6 := Lib.hid (HW5.out.trans (hb6.mono HW5.out.size))
              clear hb6
              go_wp2
              go_ret
              exact ⟨rfl, HW6.out⟩
        · have hE1 : (E != 0) = true := by simpa using hE
          clear hE
          go_wp2
          go_ret
          exact ⟨rfl, HW3.out⟩
      · have hE1 : (E != 0) = true := by simpa using hE
        have hE2 : (E == 0) = false := by simpa using hE
        clear hE
        go_wp2_with fail
        refine (encode_cases w2 A2 c2 m I2.out (fun v hv => ⟨f2 v hv, HB2.out.2 v hv⟩) HB2.out.1).mono ?_
        rintro e w3 ⟨hb3, hc⟩
        have HW3 := Lib.hid (HW2.out.trans (hb3.mono HW2.out.size))
        clear hb3
        rcases hc with ⟨_, rfl⟩ | ⟨_, E', _, rfl⟩
        all_goals
          go_wp2
          go_ret
          exact ⟨rfl, HW3.out⟩
    · clear hb2
      go_wp2_with fail
      refine (awake_any w ht).mono ?_
      rintro e w1 ⟨rfl, hb1⟩
      go_wp2
      go_ret
      exact ⟨rfl, hb1⟩
  · clear hb
    go_wp2_with fail
    refine (awake_any w ht).mono ?_
    rintro e w1 ⟨rfl, hb1⟩
    go_wp2
    go_ret
    exact ⟨rfl, hb1⟩
end Go.Proofs.YtnmnbefbadhkgaaDoor
