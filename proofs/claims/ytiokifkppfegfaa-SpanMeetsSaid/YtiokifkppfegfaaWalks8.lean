/-
  The walks of the laws' helpers on lists: Ints, Has, Without; of 'played'.
-/
import Derived.Test.YtiokifkppfegfaaWalks7
set_option linter.unusedVariables false
set_option linter.unusedSimpArgs false
namespace Go.Proofs.Ytiokifkppfegfaa
open Go.RowKit Mem Qm
set_option maxRecDepth 100000

/-- A bool is told, and nothing that was there has turned. -/
def Tells (w : World) (b : Bool) (e : Ending) (w' : World) : Prop := e = .returned (.bool b) ∧ Below w.heap.size w w'
abbrev RdI (w : World) (v : Value) (l : List Int) : Prop := Rd w v l.length 1 (ints l)
theorem take_eq_snoc {a b : List Int} {k : Nat} (ha : k < a.length) (hb : k < b.length) (h : a.take k = b.take k) (e : a[k] = b[k]) : a.take (k + 1) = b.take (k + 1) := by
  rw [take_snoc ha, take_snoc hb, h, e]
set_option maxHeartbeats 400000 in
theorem ints_any {w : World} {u v : Value} {a b : List Int} (ha : RdI w u a) (hb : RdI w v b) :
    Calls Try.prog 13 #[u, v] w (Tells w (decide (a = b))) := by
  obtain ⟨A, c, rfl, ha1, ha2⟩ := ha.shape
  obtain ⟨A', c', rfl, hb1, hb2⟩ := hb.shape
  have Ha := Lib.hid ha
  have Hb := Lib.hid hb
  clear ha hb
  by_cases hl : a.length = b.length
  · have hlb : ((a.length : Int) == (b.length : Int)) = true := by rw [beq_iff_eq]; omega
    have hln : ((a.length : Int) != (b.length : Int)) = false := by simp [hl]
    have HL := Lib.hid hl
    clear hl
    go_enter Try.func13, Try.ntmps13
    go_wp2
    go_loopw [5] (fun i wr => ∃ k : Nat, k ≤ a.length ∧ i = .int .i64 k ∧ Hid (a.take k = b.take k) ∧ Below w.heap.size w wr) (fun i _ => a.length - (intOf i).toNat)
    case atStart => exact ⟨0, Nat.zero_le _, rfl, rfl, Below.refl _ _⟩
    case round =>
      obtain ⟨k, hk, rfl, hi, hbel⟩ := hrel
      by_cases hlt : k < a.length
      · have hlt' : k < b.length := by have := HL.out; omega
        obtain ⟨b1, o1, rfl, hb1', hc1⟩ := (Ha.out.below hbel).one hlt
        obtain ⟨b2, o2, rfl, hb2', hc2⟩ := (Hb.out.below hbel).one hlt'
        have d1 := hc1.trans (Qm.ints_at a k hlt)
        have d2 := hc2.trans (Qm.ints_at b k hlt')
        clear hc1 hc2
        have i0 : (0 : Int) ≤ (k : Int) := by omega
        have i1 : (k : Int) < (a.length : Int) := by omega
        have i2 : (k : Int) < (b.length : Int) := by omega
        by_cases he : a[k] = b[k]
        · have h1 : (a[k] == b[k]) = true := beq_iff_eq.2 he
          have h2 : (a[k] != b[k]) = false := by simp [he]
          have HE := Lib.hid he
          clear he
          go_wp2
          go_quiet (fail)
          go_wp2
          go_roundw
          case measure => simp [intOf]; omega
          case rel => exact ⟨k + 1, by omega, by go_num, take_eq_snoc hlt hlt' hi HE.out, by repeat (first | exact hbel | apply Below.drew | exact ⟨hbel.os, hbel.tape, hbel.output, hbel.size, hbel.block⟩)⟩
        · have h1 : (a[k] == b[k]) = false := beq_eq_false_iff_ne.2 he
          have h2 : (a[k] != b[k]) = true := by simp [he]
          have HE := Lib.hid he
          clear he
          go_wp2
          go_quiet (fail)
          go_wp2
          go_ret
          refine ⟨?_, ⟨hbel.os, hbel.tape, hbel.output, hbel.size, hbel.block⟩⟩
          rw [decide_eq_false (fun e => HE.out (by simp [e]))]
          rfl
      · have hkn : k = a.length := by omega
        have Hkn := Lib.hid hkn
        clear hkn
        go_wp2
        go_ret
        refine ⟨?_, hbel⟩
        have e := hi
        rw [Hkn.out, List.take_length] at e
        rw [decide_eq_true (by have e2 := e.out; rw [HL.out, List.take_length] at e2; exact e2)]
        rfl
  · have hlb : ((a.length : Int) == (b.length : Int)) = false := by rw [beq_eq_false_iff_ne]; omega
    have hln : ((a.length : Int) != (b.length : Int)) = true := by rw [bne_iff_ne]; omega
    have HL := Lib.hid hl
    clear hl
    go_enter Try.func13, Try.ntmps13
    go_wp2
    go_ret
    refine ⟨?_, Below.refl _ _⟩
    rw [decide_eq_false (fun e => HL.out (by rw [e]))]
    rfl

/-- Whether a list has a number, as the laws' helper asks. -/
def hasL (l : List Int) (x : Int) : Bool := l.any fun y => decide (y = x)
theorem hasL_snoc {l : List Int} {k : Nat} (h : k < l.length) (x : Int) : hasL (l.take (k + 1)) x = (hasL (l.take k) x || decide (l[k] = x)) := by
  rw [take_snoc h]; simp only [hasL, List.any_append, List.any_cons, List.any_nil, Bool.or_false]
set_option maxHeartbeats 400000 in
theorem has_any {w : World} {v : Value} {l : List Int} {x : Int} (h : RdI w v l) :
    Calls Try.prog 18 #[v, .int .i64 x] w fun e w' => e = .returned (.bool (hasL l x)) ∧ w = w' := by
  obtain ⟨A, c, rfl, hc1, hc2⟩ := h.shape
  have hrd := Lib.hid h
  clear h
  go_enter Try.func18, Try.ntmps18
  go_wp2
  go_loop [5] (fun i => ∃ k : Nat, k ≤ l.length ∧ i = .int .i64 k ∧ Hid (hasL (l.take k) x = false)) (fun i => l.length - (intOf i).toNat)
  case atStart => exact ⟨0, Nat.zero_le _, rfl, rfl⟩
  case round =>
    obtain ⟨k, hk, rfl, hi⟩ := hrel
    by_cases hlt : k < l.length
    · obtain ⟨b, off, rfl, hb, hcell⟩ := hrd.out.one hlt
      have d0 := hcell.trans (Qm.ints_at l k hlt)
      clear hcell
      have Hs := Lib.hid (hasL_snoc hlt x)
      by_cases hx : l[k] = x
      · have hxb : (l[k] == x) = true := beq_iff_eq.2 hx
        have Hx := Lib.hid hx
        clear hx
        go_wp2
        go_ret
        have e1 : hasL (l.take (k + 1)) x = true := by rw [Hs.out, Hx.out]; simp
        have e2 : hasL l x = true := by
          rw [← List.take_append_drop (k + 1) l]
          simp only [hasL, List.any_append] at e1 ⊢
          rw [e1]; rfl
        exact ⟨by rw [e2]; rfl, rfl⟩
      · have hxb : (l[k] == x) = false := beq_eq_false_iff_ne.2 hx
        have Hx := Lib.hid hx
        clear hx
        go_wp2
        go_round
        case measure => simp [intOf]; omega
        case rel => exact ⟨k + 1, by omega, by go_num, by show hasL _ _ = false; rw [Hs.out, hi.out, decide_eq_false Hx.out]; rfl⟩
    · have hkn : k = l.length := by omega
      have Hkn := Lib.hid hkn
      clear hkn
      go_wp2
      go_ret
      have e := hi.out
      rw [Hkn.out, List.take_length] at e
      exact ⟨by rw [e]; rfl, rfl⟩
def without (l : List Int) (x : Int) : List Int := l.filter fun y => decide (y ≠ x)
theorem without_snoc {l : List Int} {k : Nat} (h : k < l.length) (x : Int) : without (l.take (k + 1)) x = if l[k] = x then without (l.take k) x else without (l.take k) x ++ [l[k]] := by
  rw [take_snoc h, without, List.filter_append]
  split
  · rename_i e; simp [without, e]
  · rename_i e; simp [without, e]
theorem without_le (l : List Int) (x : Int) : (without l x).length ≤ l.length := List.length_filter_le _ _
set_option maxHeartbeats 400000 in
theorem without_any {w : World} {v : Value} {l : List Int} {x : Int} (h : RdI w v l) (hl : l.length < 1000000) :
    Calls Try.prog 20 #[v, .int .i64 x] w (Gives (without l x) w) := by
  obtain ⟨A, c, rfl, hc1, hc2⟩ := h.shape
  have hrd := Lib.hid h
  clear h
  go_enter Try.func20, Try.ntmps20
  go_wp2
  go_loopw [5, 6] (fun u i wr => ∃ k : Nat, k ≤ l.length ∧ i = .int .i64 k ∧ Own wr w.heap.size u (without (l.take k) x) ∧ Below w.heap.size w wr) (fun _ i _ => l.length - (intOf i).toNat)
  case atStart => exact ⟨0, Nat.zero_le _, rfl, Own.nil _ _, Below.refl _ _⟩
  case round =>
    obtain ⟨k, hk, rfl, hown, hbel⟩ := hrel
    by_cases hlt : k < l.length
    · obtain ⟨b, off, rfl, hb, hcell⟩ := (hrd.out.below hbel).one hlt
      have d0 := hcell.trans (Qm.ints_at l k hlt)
      clear hcell
      have Hs := Lib.hid (without_snoc hlt x)
      have hlen : (without (l.take k) x).length < 1000000 := by have := without_le (l.take k) x; simp at this; omega
      have hsz := hbel.size
      by_cases hx : l[k] = x
      · have hxb : (l[k] == x) = true := beq_iff_eq.2 hx
        have hxn : (l[k] != x) = false := by simp [hx]
        have Hx := Lib.hid hx
        clear hx
        go_wp2
        go_roundw
        case measure => simp [intOf]; omega
        case rel => exact ⟨k + 1, by omega, by go_num, by rw [Hs.out, if_pos Hx.out]; exact hown, hbel⟩
      · have hxb : (l[k] == x) = false := beq_eq_false_iff_ne.2 hx
        have hxn : (l[k] != x) = true := by simp [hx]
        have Hx := Lib.hid hx
        clear hx
        go_wp2_with (at_builtin; refine wpList_append_int rfl (.tmp 19) (.tmp 24) rfl Try.underlying32 info3 w.heap.size u5 (without (l.take k) x) _ _ rfl hown rfl ?c1 hsz hlen ?_)
        case c1 => rfl
        intro v1 w1 ho1 hk1 hm1
        go_wp2
        go_roundw
        case measure => simp [intOf]; omega
        case rel => exact ⟨k + 1, by omega, by go_num, by rw [Hs.out, if_neg Hx.out]; exact ho1, hbel.trans (hk1.below hsz (fun i hi => (Row.at_lt hown hi).1))⟩
    · have hkn : k = l.length := by omega
      have Hkn := Lib.hid hkn
      clear hkn
      go_wp2
      go_ret
      exact ⟨u5, rfl, by rw [Hkn.out, List.take_length] at hown; exact hown, hbel⟩

/-! Deeds that come in -/
def dCells (d : Deed) : List Value := [.int .i64 d.what, .int .i64 d.th, .int .i64 d.ho, .int .i64 d.ad]
def flatD (ds : List Deed) : List Value := ds.flatMap dCells
theorem flatD_at : ∀ (ds : List Deed) (j : Nat) (h : j < ds.length) (i : Nat), i < 4 → (flatD ds)[j * 4 + i]? = (dCells ds[j])[i]?
  | x :: t, 0, _, i, hi => by
    simp only [flatD, List.flatMap_cons, List.getElem_cons_zero, Nat.zero_mul, Nat.zero_add]
    rw [List.getElem?_append_left (by simp [dCells]; omega)]
  | x :: t, j + 1, h, i, hi => by
    have ih := flatD_at t j (by simpa using h) i hi
    simp only [flatD, List.flatMap_cons, List.getElem_cons_succ] at ih ⊢
    rw [List.getElem?_append_right (by simp [dCells]; omega), ← ih]
    congr 1
    simp [dCells]; omega
theorem flatD_length : ∀ l : List Deed, (flatD l).length = l.length * 4
  | [] => rfl
  | x :: t => by have ih := flatD_length t; simp only [flatD, List.flatMap_cons, List.length_append, List.length_cons] at ih ⊢; rw [ih]; simp [dCells]; omega
structure RdD (w : World) (v : Value) (ds : List Deed) : Prop where
  rd : Rd w v ds.length 4 (flatD ds)
  wf : ∀ d ∈ ds, Wf d.ad
theorem RdD.shape {w : World} {v : Value} {ds : List Deed} (h : RdD w v ds) : ∃ A c, v = .slice A ds.length c ∧ ds.length ≤ c ∧ c ≤ 9223372036854775807 := h.rd.shape
theorem RdD.below {w w' : World} {v : Value} {ds : List Deed} (h : RdD w v ds) (k : Below w.heap.size w w') : RdD w' v ds := ⟨h.rd.below k, h.wf⟩
/-- The cells of a deed, as the walk spells them. -/
theorem RdD.at_ {w : World} {A : Option Addr} {c : Nat} {ds : List Deed} (h : RdD w (.slice A ds.length c) ds) {k : Nat} (hk : k < ds.length) : ∃ b off, A = some ⟨b, off, none⟩ ∧ b < w.heap.size ∧
    w.cell? ⟨b, off + k * 4, none⟩ = some (.int .i64 ds[k].what) ∧ w.cell? ⟨b, off + k * 4 + 1, none⟩ = some (.int .i64 ds[k].th) ∧ w.cell? ⟨b, off + k * 4 + 2, none⟩ = some (.int .i64 ds[k].ho) ∧ w.cell? ⟨b, off + k * 4 + 3, none⟩ = some (.int .i64 ds[k].ad) := by
  obtain ⟨b, off, hA, hb, hc⟩ := Rd.elem h.rd hk
  have hat := fun i hi => (hc i hi).trans (flatD_at ds k hk i hi)
  exact ⟨b, off, hA, hb, hat 0 (by decide), hat 1 (by decide), hat 2 (by decide), hat 3 (by decide)⟩
theorem RdD.wf_at {w : World} {v : Value} {ds : List Deed} (h : RdD w v ds) {k : Nat} (hk : k < ds.length) : Wf ds[k].ad := h.wf _ (List.getElem_mem hk)
def runQ (q : Q) (ds : List Deed) : Q := ds.foldl (fun q d => (stepQ q d).1) q
theorem runQ_snoc {q : Q} {ds : List Deed} {k : Nat} (h : k < ds.length) : runQ q (ds.take (k + 1)) = (stepQ (runQ q (ds.take k)) ds[k]).1 := by
  rw [take_snoc h, runQ, List.foldl_append]; rfl
theorem step_n (q : Q) (d : Deed) : (stepQ q d).1.n = q.n := by
  unfold stepQ inQ outQ holdQ bornQ retQ restQ Q.hold
  repeat' split
  all_goals rfl
theorem run_n (q : Q) (ds : List Deed) : (runQ q ds).n = q.n := by
  induction ds generalizing q with
  | nil => rfl
  | cons d t ih => show (runQ (stepQ q d).1 t).n = q.n; rw [ih, step_n]
theorem run_good {q : Q} {k : Nat} (h : Good q k) (ds : List Deed) (hd : ∀ d ∈ ds, Wf d.ad) : Good (runQ q ds) (k + ds.length) := by
  induction ds generalizing q k with
  | nil => exact h
  | cons d t ih =>
    have := ih (good_step h (hd d (by simp))) (fun x hx => hd x (by simp [hx]))
    exact this.mono (by simp; omega)
theorem good_q0 {n : Int} (h : n ≤ 4) : Good (q0 n) 0 := ⟨h, Int.le_refl 0, Int.le_refl 0, Nat.le_refl 0, Nat.le_refl 0, fun x hx => by cases hx⟩
/-- A new manager, with which deeds were done. -/
def Played (w : World) (n : Int) (ds : List Deed) (e : Ending) (w' : World) : Prop := ∃ g b v, e = .returned (.pointer (some ⟨g, 0, none⟩)) ∧ IsS w' w.heap.size g b v (runQ (q0 n) ds) ∧ Below w.heap.size w w'
set_option maxHeartbeats 400000 in
theorem played_no {w : World} {n : Int} {u : Value} {ds : List Deed} (h : ¬ (1 ≤ n ∧ n ≤ 4)) (hd : RdD w u ds) :
    Calls Try.prog 15 #[.int .i64 n, u] w fun e w' => e = .returned (.pointer none) ∧ w = w' := by
  obtain ⟨A, c, rfl, hc1, hc2⟩ := hd.shape
  have H := Lib.hid h
  clear h
  by_cases hl : 0 < ds.length
  · go_enter Try.func15, Try.ntmps15
    go_wp2_with (go_at_call 11; refine (new_no H.out).mono ?_; rintro e w' ⟨rfl, rfl⟩)
    go_rounds 1
    go_ret
    exact ⟨rfl, rfl⟩
  · go_enter Try.func15, Try.ntmps15
    go_wp2_with (go_at_call 11; refine (new_no H.out).mono ?_; rintro e w' ⟨rfl, rfl⟩)
    go_rounds 1
    go_ret
    exact ⟨rfl, rfl⟩
set_option maxHeartbeats 400000 in
theorem played_yes {w : World} {n : Int} {u : Value} {ds : List Deed} (h0 : 1 ≤ n) (h1 : n ≤ 4) (hd : RdD w u ds) (hl : ds.length < 10000) :
    Calls Try.prog 15 #[.int .i64 n, u] w (Played w n ds) := by
  obtain ⟨A, c, rfl, hc1, hc2⟩ := hd.shape
  have Hd := Lib.hid hd
  clear hd
  go_enter Try.func15, Try.ntmps15
  go_wp2_with (go_at_call 11; refine (new_yes h0 h1).mono ?_; rintro e w0 ⟨rfl, hi0, hb0⟩)
  go_loopw [7] (fun i wr => ∃ (k : Nat) (v : Value), k ≤ ds.length ∧ i = .int .i64 k ∧ IsS wr w.heap.size (w.heap.size + 1) w.heap.size v (runQ (q0 n) (ds.take k)) ∧ Below w.heap.size w wr) (fun i _ => ds.length - (intOf i).toNat)
  case atStart => exact ⟨0, _, Nat.zero_le _, rfl, hi0, hb0⟩
  case round =>
    obtain ⟨k, v, hk, rfl, hi, hbel⟩ := hrel
    clear hi0 hb0
    by_cases hlt : k < ds.length
    · obtain ⟨b, off, rfl, hb, d0, d1, d2, d3⟩ := RdD.at_ (Hd.out.below hbel) hlt
      have Hr := Lib.hid (runQ_snoc (q := q0 n) hlt)
      have hgd := Lib.hid ((run_good (good_q0 h1) (ds.take k) (fun d hd => Hd.out.wf d (List.mem_of_mem_take hd))).mono (show 0 + (ds.take k).length ≤ ds.length by simp; omega))
      have hwd := Lib.hid (Hd.out.wf_at hlt)
      have hsz := hbel.size
      have HB := Lib.hid hbel
      have HI := Lib.hid hi
      clear hbel hi
      go_wp2_with (go_at_call 12; refine (done_did HI.out hgd.out (by omega) hsz ds[k] hwd.out).mono ?_; rintro e w' ⟨u', v', rfl, ho, hi2, hk2, hm2⟩)
      go_roundw
      case measure => simp [intOf]; omega
      case rel =>
        refine ⟨k + 1, v', by omega, by go_num, by rw [Hr.out]; exact hi2, ?_⟩
        exact HB.out.trans (hk2.below hsz HI.out.foot_lo)
    · have hkn : k = ds.length := by omega
      have Hkn := Lib.hid hkn
      clear hkn
      go_wp2
      go_ret
      exact ⟨_, _, v, rfl, by rw [Hkn.out, List.take_length] at hi; exact hi, hbel⟩
end Go.Proofs.Ytiokifkppfegfaa
