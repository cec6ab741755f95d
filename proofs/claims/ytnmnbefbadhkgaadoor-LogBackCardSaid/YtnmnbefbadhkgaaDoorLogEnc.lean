/-
  WALK: log.Encode.
-/
import Derived.Test.YtnmnbefbadhkgaaDoorLogPut
import Derived.Deep.RegionHeld3
import Derived.Laws.IdiomStrings
import Derived.Outline
import Derived.Deep.DeepCutAuto
import Derived.Deep.Cut
namespace Go.Proofs.YtnmnbefbadhkgaaDoor
open Go Go.RowKit

/-- What Encode tells. -/
def encodeS (l : List Itm) : List UInt8 × Int := if 4096 < l.length then ([], 40) else if l.all Itm.may then (logBytes l, 0) else ([], 4)
/-- The bytes so far. -/
def headBytes (l : List Itm) (k : Nat) : List UInt8 := enc l.length ++ (l.take k).flatMap Itm.bytes
def EncSays (w : World) (l : List Itm) (e : Ending) (w' : World) : Prop :=
  ∃ s : ByteArray, e = .returned (.tuple #[.string s, .int .i64 (encodeS l).2]) ∧ s.data.toList = (encodeS l).1 ∧ Below w.heap.size w w'
def ItmV.ok (v : ItmV) (w : World) (B : Nat) : Prop := v.rd w B ∧ v.x.step.fits

/-- What holds while a step is put: the bytes so far, the step's box, its path. -/
structure EInv (w : World) (I : Nat) (cs : Array Value) (Av : Option Addr) (pl : List Int) (A : Option Addr) (n cap : Nat) (bs : List UInt8) (w' : World) : Prop where
  p : PutAt w w.heap.size none w' A n cap bs
  i : Blk w' I 55 cs
  r : Reads w' w.heap.size 1 Av pl.length (intsV pl)
section
variable {w w' w'' : World} {I : Nat} {cs : Array Value} {Av : Option Addr} {pl : List Int} {A : Option Addr} {n cap : Nat} {bs : List UInt8}
theorem EInv.below (h : EInv w I cs Av pl A n cap bs w') (hb : Below w'.heap.size w' w'') : EInv w I cs Av pl A n cap bs w'' :=
  ⟨h.p.below hb, h.i.below hb h.i.lt, h.r.below (hb.mono h.p.2.1.size)⟩
theorem EInv.drew (h : EInv w I cs Av pl A n cap bs w') : EInv w I cs Av pl A n cap bs w'.drew := h.below (Below.refl _ _).drew
theorem EInv.alloc (h : EInv w I cs Av pl A n cap bs w') (o : Obj) : EInv w I cs Av pl A n cap bs (w'.alloc o) := h.below ((Below.refl _ _).alloc (Nat.le_refl _) o)
theorem EInv.ne (h : EInv w I cs Av pl A n cap bs w') : blockOf A ≠ some I := by
  intro e
  cases A with
  | none => cases e
  | some ad =>
    obtain ⟨g, off, rfl, _⟩ := h.p.1.2.2.2.2 _ rfl
    cases e
    exact h.p.1.ne_ h.i (by decide) rfl
/-- numbers are put: those of some slice that lies apart. -/
theorem EInv.put (h : EInv w I cs Av pl A n cap bs w') (Al : Option Addr) (c : Nat) (ns : List Int) (hr : Reads w' w'.heap.size 1 Al ns.length (intsV ns)) (hsep : 0 < ns.length → ∀ g, blockOf A = some g → blockOf Al ≠ some g) (hns : ∀ x ∈ ns, 0 ≤ x ∧ x ≤ 9223372036854775807) (hl : ns.length ≤ maxLen) (hsz : bs.length + ns.length * 10 ≤ 140737488355328) :
    Calls Tryd.prog 35 #[.slice A n cap, .slice Al ns.length c] w' fun e w'' => ∃ A' n' cap', e = .returned (.slice A' n' cap') ∧ EInv w I cs Av pl A' n' cap' (bs ++ encs ns) w'' ∧ ∀ g t' cs', Blk w' g t' cs' → blockOf A ≠ some g → Blk w'' g t' cs' := by
  refine (put_any w' w.heap.size A Al n cap c bs ns h.p.1 h.p.2.1.size hr hsep hns hl hsz).mono ?_
  rintro e w3 ⟨b, rfl, ⟨A3, n3, cap3, rfl, hat3⟩⟩
  refine ⟨A3, n3, cap3, rfl, ⟨h.p.put (Nat.le_refl _) hat3, h.i.grown hat3.2.1 (fun e => h.ne e.symm), h.r.apart hat3.2.1 h.p.2.1.size (fun h0 g hg e => ?_)⟩, fun g t' cs' hg hne => hg.grown hat3.2.1 (fun e => hne e.symm)⟩
  have hge := (h.p.1.lt g hg).1
  obtain ⟨g', off, rfl, hlt, _⟩ := h.r.2 h0
  have : g' = g := by simpa [blockOf] using e
  omega
theorem EInv.putPath (h : EInv w I cs Av pl A n cap bs w') (c : Nat) (hns : ∀ x ∈ pl, 0 ≤ x ∧ x ≤ 9223372036854775807) (hl : pl.length ≤ maxLen) (hsz : bs.length + pl.length * 10 ≤ 140737488355328) :
    Calls Tryd.prog 35 #[.slice A n cap, .slice Av pl.length c] w' fun e w'' => ∃ A' n' cap', e = .returned (.slice A' n' cap') ∧ EInv w I cs Av pl A' n' cap' (bs ++ encs pl) w'' ∧ ∀ g t' cs', Blk w' g t' cs' → blockOf A ≠ some g → Blk w'' g t' cs' :=
  h.put Av c pl (h.r.more h.p.2.1.size) (fun h0 g hg e => by
    have hge := (h.p.1.lt g hg).1
    obtain ⟨g', off, rfl, hlt, _⟩ := h.r.2 h0
    have : g' = g := by simpa [blockOf] using e
    omega) hns hl hsz
theorem EInv.putNew (h : EInv w I cs Av pl A n cap bs w') (x : Int) (g : Nat) (hg : g = w'.heap.size) (hx : 0 ≤ x ∧ x ≤ 9223372036854775807) (hsz : bs.length + 10 ≤ 140737488355328) :
    Calls Tryd.prog 35 #[.slice A n cap, .slice (some ⟨g, 0, none⟩) 1 1] (w'.alloc (.cells #[.int .i64 x] 3)) fun e w'' => ∃ A' n' cap', e = .returned (.slice A' n' cap') ∧ EInv w I cs Av pl A' n' cap' (bs ++ encs [x]) w'' := by
  subst hg
  refine ((h.alloc _).put (some ⟨w'.heap.size, 0, none⟩) 1 [x] (by simpa [intsV] using (reads_row w' 3 1 1 [.int .i64 x] rfl)) (fun _ g hg e => by cases e; exact absurd (h.p.1.lt _ hg).2 (Nat.lt_irrefl _)) (fun y hy => by simp at hy; subst hy; exact hx) (by simp [maxLen]) (by simpa using hsz)).mono ?_
  rintro e w3 ⟨A', n', cap', he, hE, _⟩
  exact ⟨A', n', cap', he, hE⟩
theorem EInv.putOld (h : EInv w I cs Av pl A n cap bs w') (x : Int) (g : Nat) (hg : Blk w' g 3 #[.int .i64 x]) (hx : 0 ≤ x ∧ x ≤ 9223372036854775807) (hsz : bs.length + 10 ≤ 140737488355328) :
    Calls Tryd.prog 35 #[.slice A n cap, .slice (some ⟨g, 0, none⟩) 1 1] w' fun e w'' => ∃ A' n' cap', e = .returned (.slice A' n' cap') ∧ EInv w I cs Av pl A' n' cap' (bs ++ encs [x]) w'' := by
  refine (h.put (some ⟨g, 0, none⟩) 1 [x] ⟨rfl, fun _ => ⟨g, 0, rfl, hg.lt, fun j u hu => ?_⟩⟩ (fun _ g' hg' e => ?_) (fun y hy => by simp at hy; subst hy; exact hx) (by simp [maxLen]) (by simpa using hsz)).mono ?_
  · rw [Nat.zero_add, hg.cell j]
    simpa [intsV] using hu
  · cases e
    cases A with
    | none => cases hg'
    | some ad =>
      obtain ⟨g2, off, rfl, _⟩ := h.p.1.2.2.2.2 _ rfl
      cases hg'
      exact h.p.1.ne_ hg (by decide) rfl
  · rintro e w3 ⟨A', n', cap', he, hE, _⟩
    exact ⟨A', n', cap', he, hE⟩
def EInv.Rel (w : World) (I : Nat) (cs : Array Value) (Av : Option Addr) (pl : List Int) (bs : List UInt8) (b : Value) (w' : World) : Prop := ∃ A n cap, b = .slice A n cap ∧ EInv w I cs Av pl A n cap bs w'
theorem EInv.cells34 {v0 v1 v2 v3 v4 : Value} (h : EInv w I #[v0, v1, v2, v3, v4] Av pl A n cap bs w') : w'.cell? ⟨I, 3, none⟩ = some v3 ∧ w'.cell? ⟨I, 4, none⟩ = some v4 := ⟨h.i.cell 3, h.i.cell 4⟩
end

set_option maxRecDepth 100000 in
set_option maxHeartbeats 2000000 in
theorem encode_any (w : World) (A : Option Addr) (c : Nat) (l : List ItmV) (h : ItmsAt w w.heap.size A l) (hf : ∀ v ∈ l, v.x.step.fits ∧ v.x.step.path.length < 20000) (hl : l.length < 20000) :
    Calls Tryd.prog 16 #[.slice A l.length c] w (EncSays w (l.map ItmV.x)) := by
  by_cases hbig : 4096 < l.length
  · have hE : encodeS (l.map ItmV.x) = ([], 40) := by unfold encodeS; rw [if_pos (by simpa using hbig)]
    have HE := Lib.hid hE
    clear hE
    go_enter Tryd.func16, Tryd.ntmps16
    go_wp2
    go_ret2
    exact ⟨⟨#[]⟩, by rw [HE.out]; rfl, by rw [HE.out], Below.refl _ _⟩
  · go_enter Tryd.func16, Tryd.ntmps16
    go_wp2_with fail
    refine (put_any _ w.heap.size none (some ⟨w.heap.size, 0, none⟩) 0 0 1 [] [(l.length : Int)] (Owns.nil_ _ _ _ _) (by simp) (by simpa [intsV] using (reads_row w 3 1 1 [.int .i64 l.length] rfl)) (fun _ g hg => by cases hg) (fun x hx => by simp at hx; subst hx; omega) (by simp [maxLen]) (by simp)).mono ?_
    rintro e w1 ⟨b, rfl, hput⟩
    have hP0 : PutRel w w.heap.size none (headBytes (l.map ItmV.x) 0) b w1 := by
      obtain ⟨A1, n1, cap1, rfl, hat⟩ := hput
      refine ⟨A1, n1, cap1, rfl, ?_⟩
      have h0 : PutAt w w.heap.size none (w.alloc (.cells #[.int .i64 (l.length : Int)] 3)) none 0 0 [] := ⟨Owns.nil_ _ _ _ _, ⟨rfl, rfl, rfl, by simp, fun k hk _ => heap_alloc_old w _ hk⟩, .inl rfl⟩
      have := h0.put (Nat.le_refl _) hat
      simpa [headBytes, encs] using this
    obtain ⟨L, hL⟩ : ∃ L, l.map ItmV.x = L := ⟨_, rfl⟩
    rw [hL] at hP0 ⊢
    have HL := Lib.hid hL
    clear hput hL
    go_wp2
    go_loopw [4, 17] (fun b i wr => ∃ k : Nat, i = .int .i64 k ∧ k ≤ l.length ∧ (headBytes L k).length ≤ 10 + k * 400 ∧ Hid (L.all Itm.may = (L.drop k).all Itm.may) ∧ PutRel w w.heap.size none (headBytes L k) b wr) (fun _ i _ => l.length - (intOf i).toNat)
    case atStart => exact ⟨0, rfl, by omega, by simp [headBytes, enc]; exact encF_le 10 _, rfl, hP0⟩
    case round =>
      obtain ⟨k, rfl, hk, hlen, HA, ⟨A1, n1, cap1, rfl, hat⟩⟩ := hrel
      have hbw := hat.bel
      have hz := hbw.size
      by_cases hkn : k < l.length
      · have h' := h.below hbw
        obtain ⟨g, off, rfl, hg, c0, c1, c2, c3, c4, c5⟩ := h'.1.itm hkn
        obtain ⟨r1, q1⟩ := h'.2 _ (List.getElem_mem hkn)
        obtain ⟨hfit, hp2⟩ := hf _ (List.getElem_mem hkn)
        have hLk : k < L.length := by rw [← HL.out]; simpa using hkn
        have hx : L[k] = l[k].x := by simp [← HL.out]
        have HS : Hid (L.all Itm.may = (Itm.may l[k].x && (L.drop (k + 1)).all Itm.may)) := by
          show L.all Itm.may = _
          rw [HA.out, drop_cons hLk, List.all_cons, hx]
        have HH : Hid (headBytes L (k + 1) = headBytes L k ++ l[k].x.bytes) := by
          show headBytes L (k + 1) = _
          unfold headBytes
          rw [List.take_succ_eq_append_getElem hLk, List.flatMap_append, hx]
          simp
        obtain ⟨v, hv⟩ : ∃ v, l[k] = v := ⟨_, rfl⟩
        rw [hv] at c0 c1 c2 c3 c4 c5 r1 q1 hfit hp2 HS HH
        clear hv hx hP0 HA
        have hg2 : g < wr.heap.size := by omega
        have HAT := Lib.hid hat
        clear hat
        go_wp2_with fail
        have hbl : Below wr.heap.size wr ((wr.alloc (.cells v.cells.toArray 57)).alloc (.cells #[.int .u8 v.x.step.pass, .int .u8 v.x.step.way, .int .i64 v.x.step.rule, .slice v.A v.x.step.path.length v.c, .int .i64 v.x.step.at_] 55)) := ((Below.refl _ _).alloc (Nat.le_refl _) _).alloc (by simp) _
        refine (logMay_any _ w.heap.size v ((r1.alloc hz _).alloc (by simp; omega) _) (by simp; omega) q1).mono ?_
        rintro e w2 ⟨rfl, hb2⟩
        have hb2' : Below wr.heap.size wr w2 := hbl.trans (hb2.mono (by simp; omega))
        have bk6 : Blk w2 wr.heap.size 57 v.cells.toArray := ((Blk.new_ wr 57 v.cells.toArray).alloc _).below hb2 (by simp; omega)
        have bk5 : Blk w2 (wr.heap.size + 1) 55 #[.int .u8 v.x.step.pass, .int .u8 v.x.step.way, .int .i64 v.x.step.rule, .slice v.A v.x.step.path.length v.c, .int .i64 v.x.step.at_] := by
          have h5 := (Blk.new_ (wr.alloc (.cells v.cells.toArray 57)) 55 #[.int .u8 v.x.step.pass, .int .u8 v.x.step.way, .int .i64 v.x.step.rule, .slice v.A v.x.step.path.length v.c, .int .i64 v.x.step.at_]).below hb2 (by simp)
          simpa using h5
        have hat2 := HAT.out.below hb2'
        have hz2 := hb2'.size
        have hr2 : v.rd w2 w.heap.size := Reads.below r1 (hb2'.mono hz)
        clear c0 c1 c2 c3 c4 c5 r1 h' hb2 hbl hb2' HAT
        have k0 : w2.cell? ⟨wr.heap.size, 0, none⟩ = some (.bool v.x.mark) := bk6.cell 0
        clear bk6
        obtain ⟨m, hm⟩ : ∃ m, v.x.may = m := ⟨_, rfl⟩
        have HM := Lib.hid hm
        rw [hm] at HS ⊢
        clear hm
        cases m
        · go_wp2
          go_ret2
          have hE : encodeS (l.map ItmV.x) = ([], 4) := by
            rw [HL.out]
            unfold encodeS
            rw [if_neg (by rw [← HL.out]; simpa using hbig), if_neg (by rw [HS.out]; simp)]
          exact ⟨⟨#[]⟩, by rw [hE]; rfl, by rw [hE], hat2.bel⟩
        · obtain ⟨⟨mk, ⟨p, y, r, pl, t⟩⟩, Av, cv⟩ := v
          dsimp only at *
          cases mk
          · have hE2 : EInv w (wr.heap.size + 1) #[.int .u8 p, .int .u8 y, .int .i64 r, .slice Av pl.length cv, .int .i64 t] Av pl A1 n1 cap1 (headBytes L k) w2 := ⟨hat2, bk5, hr2⟩
            have l0 : w2.cell? ⟨wr.heap.size + 1, 0, none⟩ = some (.int .u8 p) := bk5.cell 0
            have l1 : w2.cell? ⟨wr.heap.size + 1, 1, none⟩ = some (.int .u8 y) := bk5.cell 1
            have l2 : w2.cell? ⟨wr.heap.size + 1, 2, none⟩ = some (.int .i64 r) := bk5.cell 2
            have l3 : w2.cell? ⟨wr.heap.size + 1, 3, none⟩ = some (.slice Av pl.length cv) := bk5.cell 3
            have hp8 : p < 256 := hfit.1
            have hy8 : y < 256 := hfit.2.1
            have hmay := HM.out
            simp only [Itm.may, Bool.false_eq_true, if_false, Bool.and_eq_true, decide_eq_true_eq, okNum, List.all_eq_true] at hmay
            obtain ⟨⟨⟨⟨_, hr0, hr1⟩, ht0, ht1⟩, hp32⟩, hall⟩ := hmay
            have HALL := Lib.hid hall
            clear bk5 hat2 hall hr2
            go_wp2_with fail
            refine ((hE2.alloc _).put (some ⟨w2.heap.size, 0, none⟩) 4 [(p : Int), (y : Int), r, (pl.length : Int)] (by simpa [intsV] using (reads_row w2 3 1 4 [.int .i64 p, .int .i64 y, .int .i64 r, .int .i64 pl.length] rfl)) (fun _ g hg e => by cases e; exact absurd (hE2.p.1.lt _ hg).2 (Nat.lt_irrefl _)) (fun x hx => by simp at hx; rcases hx with rfl | rfl | rfl | rfl <;> omega) (by simp [maxLen]) (by simp; omega)).mono ?_
            rintro e w3 ⟨A3, n3, cap3, rfl, hE3, _⟩
            clear l0 l1 l2 l3 hE2
            have hz3 := hE3.p.2.1.size
            go_upto_region 13 with fail
            have HE3 := Lib.hid hE3
            have hb3 : (headBytes L k ++ encs [(p : Int), (y : Int), r, (pl.length : Int)]).length ≤ 10 + k * 400 + 40 := by
              rw [List.length_append]
              have := encs_le [(p : Int), (y : Int), r, (pl.length : Int)]
              simp only [List.length_cons, List.length_nil] at this
              omega
            have hb5 : (headBytes L k ++ encs [(p : Int), (y : Int), r, (pl.length : Int)] ++ encs pl).length ≤ 10 + k * 400 + 360 := by
              rw [List.length_append]
              have := encs_le pl
              omega
            have m3 : w3.cell? ⟨wr.heap.size + 1, 3, none⟩ = some (.slice Av pl.length cv) := hE3.i.cell 3
            have m4 : w3.cell? ⟨wr.heap.size + 1, 4, none⟩ = some (.int .i64 t) := hE3.i.cell 4
            clear hE3
            go_region_held3 (fun w' => w'.cell? ⟨wr.heap.size + 1, 3, none⟩ = some (.slice Av pl.length cv) ∧ w'.cell? ⟨wr.heap.size + 1, 4, none⟩ = some (.int .i64 t))
              (first | exact ⟨m3, m4⟩ | exact EInv.cells34 (HE3.out.alloc _).drew | exact EInv.cells34 (by assumption) | exact EInv.cells34 (EInv.alloc (by assumption) _))
              (first | (go_at_call 35; (with_reducible refine (EInv.putPath (bs := headBytes L k ++ encs [(p : Int), (y : Int), r, (pl.length : Int)]) (by first | exact HE3.out.drew | exact (HE3.out.alloc _).drew) cv ?_ ?_ ?_).mono ?_); (focus (intro x hx; have := HALL.out x hx; omega)); (focus exact q1); (focus omega); rintro e w5 ⟨A5, n5, cap5, rfl, hE5, hk5⟩; (try have hq5 := hk5 _ _ _ (Blk.new_ w3 3 #[.int .i64 t]).drew (fun e => absurd (HE3.out.p.1.lt _ e).2 (Nat.lt_irrefl _))); clear hk5) | (go_at_call 35; (with_reducible refine (EInv.putNew (by assumption) t _ ?_ ?_ ?_).mono ?_); (focus rfl); (focus omega); (focus omega); rintro e w6 ⟨A6, n6, cap6, rfl, hE6⟩) | (go_at_call 35; (with_reducible refine (EInv.putOld (by assumption) t _ (by assumption) ?_ ?_).mono ?_); (focus omega); (focus omega); rintro e w6 ⟨A6, n6, cap6, rfl, hE6⟩))
            all_goals
              have hbytes : headBytes L (k + 1) = headBytes L k ++ encs [(p : Int), (y : Int), r, (pl.length : Int)] ++ encs pl ++ encs [t] := by
                rw [HH.out]
                simp [Itm.bytes, encs]
              have HF : Hid (PutRel w w.heap.size none (headBytes L (k + 1)) (.slice A6 n6 cap6) w6) := by
                refine Lib.hid ⟨A6, n6, cap6, rfl, ?_⟩
                rw [hbytes]
                exact hE6.p
              have HS2 : Hid (L.all Itm.may = (L.drop (k + 1)).all Itm.may) := (by rw [HS.out, Bool.true_and] : L.all Itm.may = _)
              have HN : Hid ((headBytes L (k + 1)).length ≤ 10 + (k + 1) * 400) := by
                show (headBytes L (k + 1)).length ≤ 10 + (k + 1) * 400
                rw [hbytes, List.length_append]
                have := encs_le [t]
                simp only [List.length_cons, List.length_nil] at this
                omega
              clear hbytes hE6 hE5
              go_wp2
              go_roundw
              case rel => exact ⟨k + 1, by go_num, by omega, HN.out, HS2.out, HF.out⟩
              case measure => simp [intOf]; omega
          · go_wp2_with fail
            have h3 := hat2.below ((Below.refl _ _).alloc (Nat.le_refl _) (.cells #[.int .i64 0] 3))
            refine (put_any _ w.heap.size A1 (some ⟨w2.heap.size, 0, none⟩) n1 cap1 1 (headBytes L k) [(0 : Int)] h3.1 (by simp; omega) (by simpa [intsV] using (reads_row w2 3 1 1 [.int .i64 0] rfl)) (fun _ g hg e => by cases e; exact absurd (hat2.1.lt _ hg).2 (Nat.lt_irrefl _)) (fun x hx => by simp at hx; subst hx; omega) (by simp [maxLen]) (by simp; omega)).mono ?_
            rintro e w3 ⟨b3, rfl, ⟨A3, n3, cap3, rfl, hat3⟩⟩
            have h4 := h3.put (Nat.le_refl _) hat3
            have HF : Hid (PutRel w w.heap.size none (headBytes L (k + 1)) (.slice A3 n3 cap3) w3) := by
              refine Lib.hid ⟨A3, n3, cap3, rfl, ?_⟩
              rw [HH.out]
              simpa [Itm.bytes, encs] using h4
            have HS2 : Hid (L.all Itm.may = (L.drop (k + 1)).all Itm.may) := (by rw [HS.out, Bool.true_and] : L.all Itm.may = _)
            have HN : Hid ((headBytes L (k + 1)).length ≤ 10 + (k + 1) * 400) := by
              show (headBytes L (k + 1)).length ≤ 10 + (k + 1) * 400
              rw [HH.out, List.length_append]
              have := encF_le 10 0
              simp only [Itm.bytes, if_true]
              unfold enc
              omega
            clear hat3 h4 h3 hat2
            go_wp2
            go_roundw
            case rel => exact ⟨k + 1, by go_num, by omega, HN.out, HS2.out, HF.out⟩
            case measure => simp [intOf]; omega
      · obtain rfl : k = l.length := by omega
        have hLl : L.length = l.length := by rw [← HL.out]; simp
        have hH : headBytes L l.length = logBytes L := by unfold headBytes logBytes; rw [← hLl, List.take_length]
        have hE : encodeS (l.map ItmV.x) = (logBytes L, 0) := by
          rw [HL.out]
          unfold encodeS
          rw [if_neg (by omega), if_pos (by rw [HA.out, List.drop_of_length_le (by omega)]; rfl)]
        have hlp : 0 < (headBytes L l.length).length := by
          unfold headBytes
          rw [List.length_append]
          have := enc_ne L.length
          have := List.length_pos_iff.2 this
          omega
        have hn := hat.len
        obtain ⟨g1, o1, rfl, _⟩ := hat.1.form (by omega)
        have hown := hat.1
        subst hn
        have hcv := run_convert_bytes_back (P := Tryd.prog) wr 71 9 5 ⟨g1, o1, none⟩ cap1 (headBytes L l.length) Tryd.underlying71 Tryd.underlying5 Tryd.underlying9 (fun j hj => by
          rw [show ((⟨g1, o1, none⟩ : Addr).add j) = ⟨g1, o1 + j, none⟩ from by unfold Addr.add; split <;> simp_all, hown.cell (by omega)]
          simp [u8V, hj])
        obtain ⟨bs, hbs⟩ : ∃ bs, headBytes L l.length = bs := ⟨_, rfl⟩
        rw [hbs] at hcv hlp ⊢
        have HE := Lib.hid hE
        have HB := Lib.hid (hbs.symm.trans hH)
        have HW := Lib.hid hbw
        clear hat hown hbs hE hH hP0 HA hlen hLl
        go_wp2
        go_ret2
        exact ⟨⟨bs.toArray⟩, by rw [HE.out]; rfl, by rw [HE.out]; simpa using HB.out, HW.out⟩
end Go.Proofs.YtnmnbefbadhkgaaDoor
