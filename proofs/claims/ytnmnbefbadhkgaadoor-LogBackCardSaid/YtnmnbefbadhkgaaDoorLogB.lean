/-
  WALKS over log.Same, log.May and what they call.
-/
import Derived.Test.YtnmnbefbadhkgaaDoorLogA
namespace Go.Proofs.YtnmnbefbadhkgaaDoor
open Go Go.RowKit

def itmEq (a b : Itm) : Bool := a.mark == b.mark && sameS a.step.pass a.step.way a.step.rule a.step.path a.step.at_ b.step.pass b.step.way b.step.rule b.step.path b.step.at_
def itmsEq : List Itm → List Itm → Bool
  | [], [] => true
  | a :: l, b :: m => itmEq a b && itmsEq l m
  | _, _ => false
theorem itmEq_iff (a b : Itm) : itmEq a b = true ↔ a = b := by
  obtain ⟨m, ⟨p, y, r, l, t⟩⟩ := a
  obtain ⟨m', ⟨p', y', r', l', t'⟩⟩ := b
  simp only [itmEq, sameS, Bool.and_eq_true, beq_iff_eq, Itm.mk.injEq, Stp.mk.injEq, Int.natCast_inj]
  constructor
  · rintro ⟨h0, h1, h2, h3, h4, h5⟩; exact ⟨h0, h1, h2, h3, h5, h4⟩
  · rintro ⟨h0, h1, h2, h3, h5, h4⟩; exact ⟨h0, h1, h2, h3, h4, h5⟩
theorem itmsEq_iff : ∀ (a b : List Itm), itmsEq a b = true ↔ a = b
  | [], [] => by simp [itmsEq]
  | [], _ :: _ => by simp [itmsEq]
  | _ :: _, [] => by simp [itmsEq]
  | a :: l, b :: m => by simp [itmsEq, itmEq_iff, itmsEq_iff l m]
theorem itmsEq_length (a b : List Itm) (h : a.length ≠ b.length) : itmsEq a b = false := by
  cases e : itmsEq a b
  · rfl
  · exact absurd (congrArg List.length ((itmsEq_iff a b).1 e)) h

set_option maxRecDepth 100000 in
set_option maxHeartbeats 1000000 in
theorem sameI_any (w : World) (B : Nat) (v v' : ItmV) (hr : v.rd w B) (hr' : v'.rd w B) (hB : B ≤ w.heap.size) (hl : v.x.step.path.length ≤ maxLen) (hl' : v'.x.step.path.length ≤ maxLen) :
    Calls Tryd.prog 37 #[v.val, v'.val] w fun e w' => e = .returned (.bool (itmEq v.x v'.x)) ∧ Below w.heap.size w w' := by
  obtain ⟨⟨m, ⟨p, y, r, l, t⟩⟩, A, c⟩ := v
  obtain ⟨⟨m', ⟨p', y', r', l', t'⟩⟩, A', c'⟩ := v'
  unfold ItmV.val itmEq
  unfold ItmV.rd at hr hr'
  dsimp only at *
  obtain ⟨P, hP⟩ : ∃ P : Int, (p : Int) = P := ⟨_, rfl⟩
  obtain ⟨P', hP'⟩ : ∃ P : Int, (p' : Int) = P := ⟨_, rfl⟩
  obtain ⟨Y, hY⟩ : ∃ P : Int, (y : Int) = P := ⟨_, rfl⟩
  obtain ⟨Y', hY'⟩ : ∃ P : Int, (y' : Int) = P := ⟨_, rfl⟩
  rw [hP, hP', hY, hY']
  clear hP hP' hY hY'
  have h1 := (hr.alloc hB (.cells #[.bool m, .int .u8 P, .int .u8 Y, .int .i64 r, .slice A l.length c, .int .i64 t] 57)).alloc (by simp; omega) (.cells #[.bool m', .int .u8 P', .int .u8 Y', .int .i64 r', .slice A' l'.length c', .int .i64 t'] 57)
  have h2 := (hr'.alloc hB (.cells #[.bool m, .int .u8 P, .int .u8 Y, .int .i64 r, .slice A l.length c, .int .i64 t] 57)).alloc (by simp; omega) (.cells #[.bool m', .int .u8 P', .int .u8 Y', .int .i64 r', .slice A' l'.length c', .int .i64 t'] 57)
  have hb0 : ∀ o o', Below w.heap.size w ((w.alloc o).alloc o') := fun o o' => ((Below.refl _ _).alloc (Nat.le_refl _) o).alloc (by simp) o'
  by_cases e1 : m = m'
  · subst e1
    go_enter Tryd.func37, Tryd.ntmps37
    go_wp2_with fail
    refine (sameS_any _ B P Y r t P' Y' r' t' l l' A A' c c' h1 h2 (by simp; omega) hl hl').mono ?_
    rintro e w' ⟨rfl, hb⟩
    go_wp2
    go_ret
    exact ⟨ret_bool (by simp), (hb0 _ _).trans (hb.mono (by simp; omega))⟩
  · have f4 : (m == m') = false := by simpa using e1
    clear e1
    go_enter Tryd.func37, Tryd.ntmps37
    go_wp2
    go_ret
    exact ⟨ret_bool (by simp [f4]), hb0 _ _⟩

/-- A list of items lies at A. -/
def ItmsAt (w : World) (B : Nat) (A : Option Addr) (l : List ItmV) : Prop := Reads w B 6 A l.length (l.flatMap ItmV.cells) ∧ ∀ x ∈ l, x.rd w B ∧ x.x.step.path.length ≤ maxLen
theorem ItmsAt.below {w w' : World} {B : Nat} {A : Option Addr} {l : List ItmV} (h : ItmsAt w B A l) (hb : Below B w w') : ItmsAt w' B A l := ⟨h.1.below hb, fun x hx => ⟨(h.2 x hx).1.below hb, (h.2 x hx).2⟩⟩

theorem map_drop_cons {α β : Type} (f : α → β) {l : List α} {k : Nat} (h : k < l.length) : (l.drop k).map f = f l[k] :: (l.drop (k + 1)).map f := by
  rw [List.drop_eq_getElem_cons h, List.map_cons]

set_option maxRecDepth 100000 in
set_option maxHeartbeats 2000000 in
theorem equalFunc_any (w : World) (A1 A2 : Option Addr) (c1 c2 : Nat) (l1 l2 : List ItmV) (h1 : ItmsAt w w.heap.size A1 l1) (h2 : ItmsAt w w.heap.size A2 l2) (m1 : l1.length ≤ maxLen) (m2 : l2.length ≤ maxLen) :
    Calls Tryd.prog 36 #[.slice A1 l1.length c1, .slice A2 l2.length c2, .func (.func 37) #[] #[]] w fun e w' => e = .returned (.bool (itmsEq (l1.map ItmV.x) (l2.map ItmV.x))) ∧ Below w.heap.size w w' := by
  unfold maxLen at m1 m2
  by_cases hlen : l1.length = l2.length
  · go_enter Tryd.func36, Tryd.ntmps36
    have he : (((l1.length : Int) != (l2.length : Int)) = false) := by simp [hlen]
    have HL := Lib.hid hlen
    clear hlen
    go_wp2
    go_loopw [17] (fun i wr => ∃ k : Nat, i = .int .i64 k ∧ k ≤ l1.length ∧ Below w.heap.size w wr ∧ Hid (itmsEq (l1.map ItmV.x) (l2.map ItmV.x) = itmsEq ((l1.drop k).map ItmV.x) ((l2.drop k).map ItmV.x))) (fun i _ => l1.length - (intOf i).toNat)
    case atStart => exact ⟨0, rfl, by omega, Below.refl _ _, rfl⟩
    case round =>
      obtain ⟨k, rfl, hk, hbw, HC⟩ := hrel
      by_cases hkn : k < l1.length
      · have h1' := h1.below hbw
        have h2' := h2.below hbw
        obtain ⟨g, off, rfl, hg, c0, c1, c2, c3, c4, c5⟩ := h1'.1.itm hkn
        have hk2 : k < l2.length := by have := HL.out; omega
        obtain ⟨g', off', rfl, hg', d0, d1, d2, d3, d4, d5⟩ := h2'.1.itm hk2
        obtain ⟨r1, n1⟩ := h1'.2 _ (List.getElem_mem hkn)
        obtain ⟨r2, n2⟩ := h2'.2 _ (List.getElem_mem hk2)
        have HS : Hid (itmsEq (l1.map ItmV.x) (l2.map ItmV.x) = (itmEq l1[k].x l2[k].x && itmsEq ((l1.drop (k + 1)).map ItmV.x) ((l2.drop (k + 1)).map ItmV.x))) := by
          show itmsEq (l1.map ItmV.x) (l2.map ItmV.x) = _
          rw [HC.out, map_drop_cons ItmV.x hkn, map_drop_cons ItmV.x hk2, itmsEq]
        obtain ⟨a, ha⟩ : ∃ a, l1[k] = a := ⟨_, rfl⟩
        obtain ⟨b, hb⟩ : ∃ b, l2[k] = b := ⟨_, rfl⟩
        rw [ha] at c0 c1 c2 c3 c4 c5 r1 n1
        rw [hb] at d0 d1 d2 d3 d4 d5 r2 n2
        rw [ha, hb] at HS
        clear ha hb HC h1' h2'
        have hz := hbw.size
        have hg2 : g < wr.heap.size := by omega
        have hg2' : g' < wr.heap.size := by omega
        go_wp2_with fail
        refine (sameI_any _ w.heap.size a b ((r1.alloc hz _).alloc (by simp; omega) _) ((r2.alloc hz _).alloc (by simp; omega) _) (by simp; omega) n1 n2).mono ?_
        rintro e w2 ⟨rfl, hb2⟩
        have hbw2 : Below w.heap.size w w2 := ((hbw.alloc hz _).alloc (by simp; omega) _).trans (hb2.mono (by simp; omega))
        obtain ⟨t, ht⟩ : ∃ t, itmEq a.x b.x = t := ⟨_, rfl⟩
        rw [ht] at HS ⊢
        clear ht c0 c1 c2 c3 c4 c5 d0 d1 d2 d3 d4 d5
        cases t
        · go_wp2
          go_ret
          exact ⟨ret_bool (by rw [HS.out]; rfl), hbw2⟩
        · go_wp2
          go_roundw
          case rel => exact ⟨k + 1, by go_num, by omega, hbw2, (by rw [HS.out, Bool.true_and] : itmsEq _ _ = _)⟩
          case measure => simp [intOf]; omega
      · obtain rfl : k = l1.length := by omega
        go_wp2
        go_ret
        exact ⟨ret_bool (by rw [HC.out, List.drop_length, HL.out, List.drop_length]; rfl), hbw⟩
  · have hne := itmsEq_length (l1.map ItmV.x) (l2.map ItmV.x) (by simpa using hlen)
    have he : (((l1.length : Int) != (l2.length : Int)) = true) := by simp; omega
    have HN := Lib.hid hne
    clear hlen hne
    go_enter Tryd.func36, Tryd.ntmps36
    go_wp2
    go_ret
    exact ⟨ret_bool (by rw [HN.out]), Below.refl _ _⟩

theorem logSame_any (w : World) (A1 A2 : Option Addr) (c1 c2 : Nat) (l1 l2 : List ItmV) (h1 : ItmsAt w w.heap.size A1 l1) (h2 : ItmsAt w w.heap.size A2 l2) (m1 : l1.length ≤ maxLen) (m2 : l2.length ≤ maxLen) :
    Calls Tryd.prog 17 #[.slice A1 l1.length c1, .slice A2 l2.length c2] w fun e w' => e = .returned (.bool (itmsEq (l1.map ItmV.x) (l2.map ItmV.x))) ∧ Below w.heap.size w w' := by
  go_enter Tryd.func17, Tryd.ntmps17
  go_wp2_with fail
  refine (equalFunc_any w A1 A2 c1 c2 l1 l2 h1 h2 m1 m2).mono ?_
  rintro e w' ⟨rfl, hb⟩
  go_wp2
  go_ret
  exact ⟨rfl, hb⟩

/-! ### May -/
theorem odd_any (n : Int) (w : World) : Calls Tryd.prog 48 #[.int .i64 n] w fun e w' => e = .returned (.bool (!okNum n)) ∧ w = w' := by
  by_cases h : n < 0
  · go_enter Tryd.func48, Tryd.ntmps48
    go_wp2
    go_ret
    exact ⟨ret_bool (by unfold okNum; simp; omega), rfl⟩
  · by_cases h2 : 2147483647 < n
    · go_enter Tryd.func48, Tryd.ntmps48
      go_wp2
      go_ret
      exact ⟨ret_bool (by unfold okNum; simp; omega), rfl⟩
    · go_enter Tryd.func48, Tryd.ntmps48
      go_wp2
      go_ret
      exact ⟨ret_bool (by unfold okNum; simp; omega), rfl⟩

set_option maxRecDepth 100000 in
set_option maxHeartbeats 1000000 in
theorem indexOdd_any (w : World) (B : Nat) (A : Option Addr) (c : Nat) (l : List Int) (hr : Reads w B 1 A l.length (intsV l)) (hl : l.length ≤ maxLen) :
    Calls Tryd.prog 65 #[.slice A l.length c, .func (.func 48) #[] #[]] w fun e w' => ∃ n : Int, e = .returned (.int .i64 n) ∧ decide (0 ≤ n) = (!l.all okNum) ∧ w = w' := by
  unfold maxLen at hl
  go_enter Tryd.func65, Tryd.ntmps65
  go_wp2
  go_loop [8] (fun i => ∃ k : Nat, i = .int .i64 k ∧ k ≤ l.length ∧ Hid (l.all okNum = (l.drop k).all okNum)) (fun i => l.length - (intOf i).toNat)
  case atStart => exact ⟨0, rfl, by omega, rfl⟩
  case round =>
    obtain ⟨k, rfl, hk, HC⟩ := hrel
    by_cases hkn : k < l.length
    · obtain ⟨g, off, rfl, _, d0⟩ := hr.int hkn
      have HS : Hid (l.all okNum = (okNum l[k] && (l.drop (k + 1)).all okNum)) := by
        show l.all okNum = _
        rw [HC.out, drop_cons hkn, List.all_cons]
      obtain ⟨a, ha⟩ : ∃ a, l[k] = a := ⟨_, rfl⟩
      rw [ha] at d0 HS
      clear ha HC
      go_wp2_with fail
      refine (odd_any a w).mono ?_
      rintro e w' ⟨rfl, rfl⟩
      obtain ⟨t, ht⟩ : ∃ t, okNum a = t := ⟨_, rfl⟩
      rw [ht] at HS ⊢
      clear ht
      cases t
      · go_wp2
        go_ret
        exact ⟨_, rfl, by rw [HS.out]; simp, rfl⟩
      · go_wp2
        go_round
        case rel => exact ⟨k + 1, by go_num, by omega, (by rw [HS.out, Bool.true_and] : l.all okNum = _)⟩
        case measure => simp [intOf]; omega
    · obtain rfl : k = l.length := by omega
      go_wp2
      go_ret
      exact ⟨_, rfl, by rw [HC.out, List.drop_length]; simp, rfl⟩

theorem containsOdd_any (w : World) (B : Nat) (A : Option Addr) (c : Nat) (l : List Int) (hr : Reads w B 1 A l.length (intsV l)) (hl : l.length ≤ maxLen) :
    Calls Tryd.prog 49 #[.slice A l.length c, .func (.func 48) #[] #[]] w fun e w' => e = .returned (.bool (!l.all okNum)) ∧ w = w' := by
  go_enter Tryd.func49, Tryd.ntmps49
  go_wp2_with fail
  refine (indexOdd_any w B A c l hr hl).mono ?_
  rintro e w' ⟨n, rfl, hn, rfl⟩
  have HN := Lib.hid hn
  clear hn
  go_wp2
  go_ret
  exact ⟨ret_bool HN.out, rfl⟩

set_option maxRecDepth 100000 in
set_option maxHeartbeats 2000000 in
theorem logMay_any (w : World) (B : Nat) (v : ItmV) (hr : v.rd w B) (hB : B ≤ w.heap.size) (hl : v.x.step.path.length ≤ maxLen) :
    Calls Tryd.prog 25 #[v.val] w fun e w' => e = .returned (.bool v.x.may) ∧ Below w.heap.size w w' := by
  obtain ⟨⟨m, ⟨p, y, r, l, t⟩⟩, A, c⟩ := v
  unfold ItmV.val
  unfold ItmV.rd at hr
  dsimp only at *
  have hb0 : ∀ o, Below w.heap.size w (w.alloc o) := fun o => (Below.refl _ _).alloc (Nat.le_refl _) o
  have hl' := hl
  unfold maxLen at hl'
  cases m
  · have HM : Hid (Itm.may ⟨false, ⟨p, y, r, l, t⟩⟩ = (decide (p ≠ 0) && okNum r && okNum t && decide (l.length ≤ 32) && l.all okNum)) := rfl
    have HP : Hid (decide (p ≠ 0) = !decide ((p : Int) = 0)) := (by by_cases h : p = 0 <;> simp [h] : decide (p ≠ 0) = !decide ((p : Int) = 0))
    obtain ⟨P, hP⟩ : ∃ P : Int, (p : Int) = P := ⟨_, rfl⟩
    obtain ⟨Y, hY⟩ : ∃ P : Int, (y : Int) = P := ⟨_, rfl⟩
    rw [hP] at HP
    rw [hP, hY]
    clear hP hY
    have h1 := hr.alloc hB (.cells #[.bool false, .int .u8 P, .int .u8 Y, .int .i64 r, .slice A l.length c, .int .i64 t] 57)
    by_cases e0 : P = 0
    · subst e0
      go_enter Tryd.func25, Tryd.ntmps25
      go_wp2
      go_ret
      exact ⟨ret_bool (by rw [HM.out, HP.out]; simp), hb0 _⟩
    · have f0 : (P != 0) = true := by simpa using e0
      obtain ⟨R, hR⟩ : ∃ b, okNum r = b := ⟨_, rfl⟩
      obtain ⟨T, hT⟩ : ∃ b, okNum t = b := ⟨_, rfl⟩
      have HE := Lib.hid e0
      have odr := odd_any r
      have odt := odd_any t
      rw [hR] at HM odr
      rw [hT] at HM odt
      clear e0 hR hT
      cases R
      · go_enter Tryd.func25, Tryd.ntmps25
        go_wp2_with fail
        refine (odr _).mono ?_
        rintro e w' ⟨rfl, rfl⟩
        go_wp2
        go_ret
        exact ⟨ret_bool (by rw [HM.out]; simp), hb0 _⟩
      · cases T
        · go_enter Tryd.func25, Tryd.ntmps25
          go_wp2_with fail
          refine (odr _).mono ?_
          rintro e w' ⟨rfl, rfl⟩
          go_wp2_with fail
          refine (odt _).mono ?_
          rintro e w' ⟨rfl, rfl⟩
          go_wp2
          go_ret
          exact ⟨ret_bool (by rw [HM.out]; simp), hb0 _⟩
        · by_cases h32 : l.length ≤ 32
          · go_enter Tryd.func25, Tryd.ntmps25
            go_wp2_with fail
            refine (odr _).mono ?_
            rintro e w' ⟨rfl, rfl⟩
            go_wp2_with fail
            refine (odt _).mono ?_
            rintro e w' ⟨rfl, rfl⟩
            go_wp2_with fail
            refine (containsOdd_any _ B A c l h1 hl).mono ?_
            rintro e w' ⟨rfl, rfl⟩
            go_wp2
            go_ret
            exact ⟨ret_bool (by rw [HM.out, HP.out]; simp [HE.out, h32]), hb0 _⟩
          · go_enter Tryd.func25, Tryd.ntmps25
            go_wp2_with fail
            refine (odr _).mono ?_
            rintro e w' ⟨rfl, rfl⟩
            go_wp2_with fail
            refine (odt _).mono ?_
            rintro e w' ⟨rfl, rfl⟩
            go_wp2
            go_ret
            exact ⟨ret_bool (by rw [HM.out]; simp; omega), hb0 _⟩
  · have HM : Hid (Itm.may ⟨true, ⟨p, y, r, l, t⟩⟩ = sameS p y r l t 0 0 0 [] 0) := by
      show Itm.may ⟨true, ⟨p, y, r, l, t⟩⟩ = sameS p y r l t 0 0 0 [] 0
      rw [Bool.eq_iff_iff]
      simp only [Itm.may, sameS, if_true, Bool.and_eq_true, decide_eq_true_eq, beq_iff_eq, List.isEmpty_iff]
      constructor
      · rintro ⟨⟨⟨⟨h1, h2⟩, h3⟩, h4⟩, h5⟩; exact ⟨by omega, by omega, h3, h4, h5⟩
      · rintro ⟨h1, h2, h3, h4, h5⟩; exact ⟨⟨⟨⟨by omega, by omega⟩, h3⟩, h4⟩, h5⟩
    obtain ⟨P, hP⟩ : ∃ P : Int, (p : Int) = P := ⟨_, rfl⟩
    obtain ⟨Y, hY⟩ : ∃ P : Int, (y : Int) = P := ⟨_, rfl⟩
    rw [hP, hY] at HM
    rw [hP, hY]
    clear hP hY
    have h1 := hr.alloc hB (.cells #[.bool true, .int .u8 P, .int .u8 Y, .int .i64 r, .slice A l.length c, .int .i64 t] 57)
    go_enter Tryd.func25, Tryd.ntmps25
    go_wp2_with fail
    refine (sameS_any _ B P Y r t 0 0 0 0 l [] A none c 0 h1 ⟨by simp [intsV], fun h => absurd h (by simp)⟩ (by simp; omega) hl (by simp)).mono ?_
    rintro e w' ⟨rfl, hb⟩
    go_wp2
    go_ret
    exact ⟨ret_bool (by rw [HM.out]), (hb0 _).trans (hb.mono (by simp))⟩
end Go.Proofs.YtnmnbefbadhkgaaDoor
