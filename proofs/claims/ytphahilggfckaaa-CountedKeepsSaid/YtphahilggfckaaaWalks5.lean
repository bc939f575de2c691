/-
  The walks of the laws' helpers: same, has, do, awake; the law of the bound.
-/
import Derived.Test.YtphahilggfckaaaWalks4
import Derived.Deep.QuietTactic
import Derived.BigQuiet
set_option linter.unusedVariables false
set_option linter.unusedSimpArgs false
namespace Go.Proofs.Ytphahilggfckaaa
open Go.RowKit Mem Qm
set_option maxRecDepth 100000

theorem _root_.Go.RowKit.Below.drewN {B : Nat} {a w : World} (h : Below B a w) (n : Nat) : Below B a (w.drewN n) := ⟨h.os, h.tape, h.output, h.size, h.block⟩
/-- A bool is told, and nothing that was there has turned. -/
def Tells (w : World) (b : Bool) (e : Ending) (w' : World) : Prop := e = .returned (.bool b) ∧ Below w.heap.size w w'
theorem take_eq_snoc {a b : List Int} {k : Nat} (ha : k < a.length) (hb : k < b.length) (h : a.take k = b.take k) (e : a[k] = b[k]) : a.take (k + 1) = b.take (k + 1) := by
  rw [take_snoc ha, take_snoc hb, h, e]
set_option maxHeartbeats 400000 in
theorem same_any {w : World} {u v : Value} {a b : List Int} (ha : RdI w u a) (hb : RdI w v b) :
    Calls Try.prog 21 #[u, v] w (Tells w (decide (a = b))) := by
  obtain ⟨A, c, rfl, ha1, ha2⟩ := ha.shape
  obtain ⟨A', c', rfl, hb1, hb2⟩ := hb.shape
  have Ha := Lib.hid ha
  have Hb := Lib.hid hb
  clear ha hb
  by_cases hl : a.length = b.length
  · have hlb : ((a.length : Int) == (b.length : Int)) = true := by rw [beq_iff_eq]; omega
    have hln : ((a.length : Int) != (b.length : Int)) = false := by simp [hl]
    have HL := Lib.hid hl
    clear hl
    go_enter Try.func21, Try.ntmps21
    go_wp2
    go_loopw [5] (fun i wr => ∃ k : Nat, k ≤ a.length ∧ i = .int .i64 k ∧ Hid (a.take k = b.take k) ∧ Below w.heap.size w wr) (fun i _ => a.length - (intOf i).toNat)
    case atStart => exact ⟨0, Nat.zero_le _, rfl, rfl, Below.refl _ _⟩
    case round =>
      obtain ⟨k, hk, rfl, hi, hbel⟩ := hrel
      by_cases hlt : k < a.length
      · have hlt' : k < b.length := by have := HL.out; omega
        obtain ⟨b1, o1, rfl, hb1', hc1⟩ := (Ha.out.below hbel).one hlt
        obtain ⟨b2, o2, rfl, hb2', hc2⟩ := (Hb.out.below hbel).one hlt'
        have d1 := hc1.trans (Qm.ints_at a k hlt)
        have d2 := hc2.trans (Qm.ints_at b k hlt')
        clear hc1 hc2
        have i0 : (0 : Int) ≤ (k : Int) := by omega
        have i1 : (k : Int) < (a.length : Int) := by omega
        have i2 : (k : Int) < (b.length : Int) := by omega
        by_cases he : a[k] = b[k]
        · have h1 : (a[k] == b[k]) = true := beq_iff_eq.2 he
          have h2 : (a[k] != b[k]) = false := by simp [he]
          have HE := Lib.hid he
          clear he
          go_wp2
          go_quiet (fail)
          go_wp2
          go_roundw
          case measure => simp [intOf]; omega
          case rel => exact ⟨k + 1, by omega, by go_num, take_eq_snoc hlt hlt' hi HE.out, by repeat (first | exact hbel | apply Below.drew | exact ⟨hbel.os, hbel.tape, hbel.output, hbel.size, hbel.block⟩)⟩
        · have h1 : (a[k] == b[k]) = false := beq_eq_false_iff_ne.2 he
          have h2 : (a[k] != b[k]) = true := by simp [he]
          have HE := Lib.hid he
          clear he
          go_wp2
          go_quiet (fail)
          go_wp2
          go_ret
          refine ⟨?_, ⟨hbel.os, hbel.tape, hbel.output, hbel.size, hbel.block⟩⟩
          rw [decide_eq_false (fun e => HE.out (by simp [e]))]
          rfl
      · have hkn : k = a.length := by omega
        have Hkn := Lib.hid hkn
        clear hkn
        go_wp2
        go_ret
        refine ⟨?_, hbel⟩
        have e := hi
        rw [Hkn.out, List.take_length] at e
        rw [decide_eq_true (by have e2 := e.out; rw [HL.out, List.take_length] at e2; exact e2)]
        rfl
  · have hlb : ((a.length : Int) == (b.length : Int)) = false := by rw [beq_eq_false_iff_ne]; omega
    have hln : ((a.length : Int) != (b.length : Int)) = true := by rw [bne_iff_ne]; omega
    have HL := Lib.hid hl
    clear hl
    go_enter Try.func21, Try.ntmps21
    go_wp2
    go_ret
    refine ⟨?_, Below.refl _ _⟩
    rw [decide_eq_false (fun e => HL.out (by rw [e]))]
    rfl

/-- Whether a list has a number, as the laws' helper asks. -/
def hasL (l : List Int) (x : Int) : Bool := l.any fun y => decide (y = x)
theorem hasL_snoc {l : List Int} {k : Nat} (h : k < l.length) (x : Int) : hasL (l.take (k + 1)) x = (hasL (l.take k) x || decide (l[k] = x)) := by
  rw [take_snoc h]; simp only [hasL, List.any_append, List.any_cons, List.any_nil, Bool.or_false]
set_option maxHeartbeats 400000 in
theorem hasl_any {w : World} {v : Value} {l : List Int} {x : Int} (h : RdI w v l) :
    Calls Try.prog 27 #[v, .int .i64 x] w fun e w' => e = .returned (.bool (hasL l x)) ∧ w = w' := by
  obtain ⟨A, c, rfl, hc1, hc2⟩ := h.shape
  have hrd := Lib.hid h
  clear h
  go_enter Try.func27, Try.ntmps27
  go_wp2
  go_loop [5] (fun i => ∃ k : Nat, k ≤ l.length ∧ i = .int .i64 k ∧ Hid (hasL (l.take k) x = false)) (fun i => l.length - (intOf i).toNat)
  case atStart => exact ⟨0, Nat.zero_le _, rfl, rfl⟩
  case round =>
    obtain ⟨k, hk, rfl, hi⟩ := hrel
    by_cases hlt : k < l.length
    · obtain ⟨b, off, rfl, hb, hcell⟩ := hrd.out.one hlt
      have d0 := hcell.trans (Qm.ints_at l k hlt)
      clear hcell
      have Hs := Lib.hid (hasL_snoc hlt x)
      by_cases hx : l[k] = x
      · have hxb : (l[k] == x) = true := beq_iff_eq.2 hx
        have Hx := Lib.hid hx
        clear hx
        go_wp2
        go_ret
        have e1 : hasL (l.take (k + 1)) x = true := by rw [Hs.out, Hx.out]; simp
        have e2 : hasL l x = true := by
          rw [← List.take_append_drop (k + 1) l]
          simp only [hasL, List.any_append] at e1 ⊢
          rw [e1]; rfl
        exact ⟨by rw [e2]; rfl, rfl⟩
      · have hxb : (l[k] == x) = false := beq_eq_false_iff_ne.2 hx
        have Hx := Lib.hid hx
        clear hx
        go_wp2
        go_round
        case measure => simp [intOf]; omega
        case rel => exact ⟨k + 1, by omega, by go_num, by show hasL _ _ = false; rw [Hs.out, hi.out, decide_eq_false Hx.out]; rfl⟩
    · have hkn : k = l.length := by omega
      have Hkn := Lib.hid hkn
      clear hkn
      go_wp2
      go_ret
      have e := hi.out
      rw [Hkn.out, List.take_length] at e
      exact ⟨by rw [e]; rfl, rfl⟩
/-- An act: what, which thread, which hold, which address. -/
structure Deed where
  what : Int
  th : Int
  ho : Int
  ad : Int
def deedV (d : Deed) : Value := .agg #[.int .i64 d.what, .int .i64 d.th, .int .i64 d.ho, .int .i64 d.ad]
def stepQ (q : Q) (d : Deed) : Q × List Int × Int :=
  if d.what = 0 then inQ q d.th else if d.what = 1 then outQ q d.th else if d.what = 2 then holdQ q d.th d.ho d.ad else if d.what = 3 then (q, [], bornQ q d.ad) else if d.what = 4 then retQ q d.th d.ad else if d.what = 5 then restQ q else (q, [], 0)
theorem Did.alloc {w w' : World} {o : Obj} {B g gh b N : Nat} {v : Value} {r : Q × List Int × Int} {e : Ending} (h : Did (w.alloc o) B g gh b N v r e w') : Did w B g gh b N v r e w' := by
  obtain ⟨u, v', N', he, ho, hi, hn, hk, hm⟩ := h
  exact ⟨u, v', N', he, Row.mono ho (by simp), hi, hn, ((Kept.refl w _).alloc o).trans hk (fun _ _ h => h), fun i hi => (hm i hi).imp id (fun h => Nat.le_trans (by simp) h)⟩
set_option maxHeartbeats 1000000 in
theorem do_did {w : World} {B g gh b N : Nat} {v : Value} {q : Q} (h : IsC w B g gh b N v q) {k : Nat} (hg : Good q k) (hk : k < 800000) (hN : N < 700000) (hB : B ≤ w.heap.size) (d : Deed) (hwd : Wf d.ad) :
    Calls Try.prog 16 #[.pointer (some ⟨g, 0, none⟩), deedV d] w (Did w B g gh b N v (stepQ q d)) := by
  have h' : ∀ o : Obj, IsC (w.alloc o) B g gh b N v q := fun o => h.below ((Below.refl _ _).alloc (Nat.le_refl _) o)
  have hB' : ∀ o : Obj, B ≤ (w.alloc o).heap.size := fun o => by simp; omega
  have H := Lib.hid h'
  have HB := Lib.hid hB'
  have HG := Lib.hid hg
  have HW := Lib.hid hwd
  obtain ⟨what, th, ho, ad⟩ := d
  clear h' hB' h hg hwd
  simp only [deedV, stepQ]
  by_cases e0 : what = 0
  · subst e0
    go_enter Try.func16, Try.ntmps16
    go_wp2_with (go_at_call 30; refine (in_did (H.out _) _).mono ?_; rintro e w' hd; obtain ⟨u, v', N', rfl, ho', hi, hn, hk, hm⟩ := hd.alloc)
    go_ret2
    exact ⟨u, v', N', rfl, ho', hi, hn, hk, hm⟩
  by_cases e1 : what = 1
  · subst e1
    go_enter Try.func16, Try.ntmps16
    go_wp2_with (go_at_call 29; refine (out_did (H.out _) HG.out (by omega) (by omega) (HB.out _) _).mono ?_; rintro e w' hd; obtain ⟨u, v', N', rfl, ho', hi, hn, hk, hm⟩ := hd.alloc)
    go_ret2
    exact ⟨u, v', N', rfl, ho', hi, hn, hk, hm⟩
  by_cases e2 : what = 2
  · subst e2
    go_enter Try.func16, Try.ntmps16
    go_wp2_with (go_at_call 26; refine (hold_did (H.out _) HG.out (by omega) (by omega) (HB.out _) _ _ _ HW.out).mono ?_; rintro e w' hd; obtain ⟨u, v', N', rfl, ho', hi, hn, hk, hm⟩ := hd.alloc)
    go_ret2
    exact ⟨u, v', N', rfl, ho', hi, hn, hk, hm⟩
  by_cases e3 : what = 3
  · subst e3
    go_enter Try.func16, Try.ntmps16
    go_wp2_with fail
    refine (born_did (H.out _) _).mono ?_
    rintro e w' ⟨rfl, rfl⟩
    go_wp2
    go_ret2
    exact ⟨_, v, N, rfl, Own.nil _ _, H.out _, by omega, (Kept.refl w _).alloc _, fun _ h => .inl h⟩
  by_cases e4 : what = 4
  · subst e4
    go_enter Try.func16, Try.ntmps16
    go_wp2_with (go_at_call 28; refine (ret_did (H.out _) HG.out (by omega) (HB.out _) _ _ HW.out).mono ?_; rintro e w' hd; obtain ⟨u, v', N', rfl, ho', hi, hn, hk, hm⟩ := hd.alloc)
    go_ret2
    exact ⟨u, v', N', rfl, ho', hi, hn, hk, hm⟩
  by_cases e5 : what = 5
  · subst e5
    by_cases hok : q.ok 0
    · have HQ := Lib.hid (show restQ q = (q.loose, backs q q.ws, 0) from if_pos hok)
      have HOK := Lib.hid hok
      clear hok
      go_enter Try.func16, Try.ntmps16
      go_wp2_with fail
      refine (rest_yes (H.out _) HOK.out (HB.out _) (by have := HG.out.len; omega) HG.out.wf).mono ?_
      rintro e w' ⟨u, v', rfl, ho', hi, hk1, hm⟩
      have HH := Lib.hid (show Did (w.alloc (.cells #[.int .i64 5, .int .i64 th, .int .i64 ho, .int .i64 ad] 41)) B g gh b N v (q.loose, backs q q.ws, 0) (res u 0) w' from ⟨u, v', N, rfl, ho', hi, by omega, hk1, hm⟩)
      clear ho' hi hk1 hm
      go_wp2
      go_ret2
      show Did w B g gh b N v (restQ q) _ _
      rw [HQ.out]
      exact HH.out.alloc
    · have HQ := Lib.hid (show restQ q = (q, [], 0) from if_neg hok)
      have HN := Lib.hid (not_ok (H.out (.cells #[.int .i64 5, .int .i64 th, .int .i64 ho, .int .i64 ad] 41)) hok)
      clear hok
      go_enter Try.func16, Try.ntmps16
      go_wp2_with fail
      refine (rest_no HN.out).mono ?_
      rintro e w' ⟨rfl, rfl⟩
      go_wp2
      go_ret2
      show Did w B g gh b N v (restQ q) _ _
      rw [HQ.out]
      exact ⟨_, v, N, rfl, Own.nil _ _, H.out _, by omega, (Kept.refl w _).alloc _, fun _ h => .inl h⟩
  · rw [if_neg e0, if_neg e1, if_neg e2, if_neg e3, if_neg e4, if_neg e5]
    have b0 : (what == 0) = false := beq_eq_false_iff_ne.2 e0
    have b1 : (what == 1) = false := beq_eq_false_iff_ne.2 e1
    have b2 : (what == 2) = false := beq_eq_false_iff_ne.2 e2
    have b3 : (what == 3) = false := beq_eq_false_iff_ne.2 e3
    have b4 : (what == 4) = false := beq_eq_false_iff_ne.2 e4
    have b5 : (what == 5) = false := beq_eq_false_iff_ne.2 e5
    clear e0 e1 e2 e3 e4 e5
    go_enter Try.func16, Try.ntmps16
    go_wp2
    go_ret2
    exact ⟨_, v, N, rfl, Own.nil _ _, H.out _, by omega, (Kept.refl w _).alloc _, fun _ h => .inl h⟩
/-- A list of one number, just made. -/
theorem one_rd (w : World) (x : Int) : RdI (w.alloc (.cells #[.int .i64 x] 3)) (.slice (some ⟨w.heap.size, 0, none⟩) 1 1) [x] := by
  refine ⟨rfl, _, _, rfl, Nat.le_refl _, by simp [maxLen], fun _ => ⟨_, 0, rfl, by simp, fun q u hu => ?_⟩⟩
  rw [Nat.zero_add, World.cell?_alloc_new]
  simpa [ints] using hu
theorem good_q0 {m : Nat} (h : m ≤ 4) : Good (q0 m) 0 := ⟨h, Nat.le_refl _, fun x hx => by
  have : ∀ (n : Nat) (y : Int), y ∈ zeros n → y = 0 := fun n => by
    induction n with
    | zero => intro y hy; simp [zeros] at hy
    | succ n ih => intro y hy; simp only [zeros, List.mem_cons] at hy; rcases hy with h | h; exact h; exact ih y h
  rw [this _ x hx]; exact wf0, fun x hx => by cases hx⟩
def aq1 : Q := ⟨2, [0, 0, 0, 0, 0, 100], [], 2, []⟩
def aq2 : Q := ⟨2, [0, 0, 0, 0, 0, 100], [100], 2, []⟩
def aq3 : Q := ⟨2, [0, 0, 0, 0, 0, 0], [], 2, []⟩
set_option maxHeartbeats 1000000 in
theorem awake_any (w : World) : Calls Try.prog 12 #[] w (Tells w true) := by
  have W100 := Lib.hid (show Wf 100 from wf_of (by decide) (by decide))
  go_enter Try.func12, Try.ntmps12
  go_wp2_with fail
  refine (new_yes (m := 2) (by decide) (by decide)).mono ?_
  rintro e w1 ⟨rfl, h1, b1⟩
  have s1 := b1.size
  have g1 := Lib.hid (good_q0 (m := 2) (by decide))
  go_wp2_with fail
  have ct2 := hold_did h1 g1.out (by decide) (by decide) s1 1 2 100 W100.out
  rw [show holdQ (q0 2) 1 2 100 = (aq1, [], 0) from rfl] at ct2
  refine ct2.mono ?_
  rintro e w2 ⟨u2, v2, N2, rfl, o2, h2, n2, k2, m2⟩
  have b2 : Below w.heap.size w w2 := b1.trans (k2.below s1 h1.foot_lo)
  have s2 := b2.size
  have g2 := Lib.hid (show Good aq1 0 from good_loose (good_put g1.out 1 2 W100.out))
  clear ct2 h1 k2 b1 o2 m2
  go_wp2_with fail
  have ct3 := ret_did h2 g2.out (by decide) s2 0 100 W100.out
  rw [show retQ aq1 0 100 = (aq2, [], 0) from rfl] at ct3
  refine ct3.mono ?_
  rintro e w3 ⟨u3, v3, N3, rfl, o3, h3, n3, k3, m3⟩
  obtain ⟨A3, c3, rfl, _, _⟩ := Row.shape o3
  have b3 : Below w.heap.size w w3 := b2.trans (k3.below s2 h2.foot_lo)
  have s3 := b3.size
  have g3 := Lib.hid (show Good aq2 1 from good_loose (good_add g2.out W100.out))
  clear ct3 h2 k3 b2 o3 m3
  go_wp2_with fail
  have ct4 := out_did h3 g3.out (by decide) (by omega) s3 1
  rw [show outQ aq2 1 = (aq3, [100], 0) from rfl] at ct4
  refine ct4.mono ?_
  rintro e w4 ⟨u4, v4, N4, rfl, o4, h4, n4, k4, m4⟩
  have b4 : Below w.heap.size w w4 := b3.trans (k4.below s3 h3.foot_lo)
  have s4 := b4.size
  clear ct4 h3 k4 b3 m4
  go_wp2_with fail
  refine (same_any (Row.rd (World.ownsRow.alloc o4 _)) (one_rd w4 100)).mono ?_
  rintro e w6 ⟨rfl, b7⟩
  rw [show decide (([100] : List Int) = [100]) = true from rfl]
  have h6 := (h4.below ((Below.refl _ w4).alloc (Nat.le_refl _) _)).below b7
  have b8 := Lib.hid ((b4.alloc s4 _).trans (b7.mono (by simp; omega)))
  clear h4 b7 b4 o4
  go_wp2_with fail
  refine (count_yes h6 ⟨by decide, by decide⟩ W100.out).mono ?_
  rintro e w7 ⟨rfl, rfl⟩
  rw [show aq3.c 100 = 0 from rfl]
  go_wp2
  go_ret
  exact ⟨rfl, b8.out⟩
theorem most_any {w : World} {n : Int} (h0 : 0 ≤ n) (h1 : n ≤ 1000) :
    Calls Try.prog 14 #[.int .i64 n] w fun e w' => e = .returned (.int .i64 (3 * n)) ∧ w = w' := by
  go_enter Try.func14, Try.ntmps14
  go_wp2
  go_ret
  exact ⟨rfl, rfl⟩
theorem bounds_walk {w : World} {n : Int} : Calls Try.prog 3 #[.int .i64 n] w (Tells w true) := by
  by_cases hn : 1 ≤ n ∧ n ≤ 4
  · obtain ⟨n0, n4⟩ := hn
    go_enter Try.func3, Try.ntmps3
    go_wp2_with fail
    refine (awake_any _).mono ?_
    rintro e w1 ⟨rfl, b1⟩
    go_wp2_with fail
    refine (bound_yes n0 n4).mono ?_
    rintro e w2 ⟨rfl, rfl⟩
    go_wp2_with fail
    refine (most_any (by omega) (by omega)).mono ?_
    rintro e w2 ⟨rfl, rfl⟩
    go_wp2
    go_ret
    exact ⟨rfl, b1⟩
  · have Hn := Lib.hid hn
    by_cases h0 : n < 1
    · clear hn
      go_enter Try.func3, Try.ntmps3
      go_wp2_with fail
      refine (awake_any _).mono ?_
      rintro e w1 ⟨rfl, b1⟩
      go_wp2_with fail
      refine (bound_no Hn.out).mono ?_
      rintro e w2 ⟨rfl, rfl⟩
      go_wp2
      go_ret
      exact ⟨rfl, b1⟩
    · have h1 : 4 < n := by omega
      clear hn
      go_enter Try.func3, Try.ntmps3
      go_wp2_with fail
      refine (awake_any _).mono ?_
      rintro e w1 ⟨rfl, b1⟩
      go_wp2_with fail
      refine (bound_no Hn.out).mono ?_
      rintro e w2 ⟨rfl, rfl⟩
      go_wp2
      go_ret
      exact ⟨rfl, b1⟩
end Go.Proofs.Ytphahilggfckaaa
