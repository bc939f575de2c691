/-
  A manager gives back, waits and refuses as the document says: the walks of told, alike, and of the law.
-/
import Derived.Test.YtdgkdfblgeobmaaRef4
set_option linter.unusedVariables false
set_option linter.unusedSimpArgs false
namespace Go.Proofs.Ytdgkdfblgeobmaa
open Go.RowKit Mem Qm
set_option maxRecDepth 100000

theorem DidQ.alloc {w : World} {B g : Nat} {iv mv : Value} {its : List It} {r : Q × List Int × Int} {e : Ending} {w' : World} {o : Obj} (h : DidQ (w.alloc o) B g iv mv its r e w') : DidQ w B g iv mv its r e w' := by
  obtain ⟨u, iv', mv', I', its', he, ho, hi, hk, hf⟩ := h
  exact ⟨u, iv', mv', I', its', he, Row.mono ho (by simp), hi, ((Kept.refl w _).alloc o).trans hk (fun _ _ h => h), fun i hi => (hf i hi).imp id (fun h => Nat.le_trans (by simp) h)⟩
section
variable {w : World} {B g : Nat} {iv mv : Value} {q : Q} {I : List Int} {its : List It}
set_option maxHeartbeats 2000000 in
theorem told_did (h : IsQ w B g iv mv q I its) (h1 : 1 ≤ q.n) (h4 : q.n ≤ 4) (hno : ∀ x ∈ q.ws, x.2.no = false) (hBw : B ≤ w.heap.size) (hl : its.length < 900000) (d : Deed) :
    Calls Try.prog 25 #[.pointer (some ⟨g, 0, none⟩), deedV d] w (DidQ w B g iv mv its (stepQ q d)) := by
  have h' : ∀ o : Obj, IsQ (w.alloc o) B g iv mv q I its := fun o => h.below ((Below.refl _ _).alloc (Nat.le_refl _) o)
  have hB' : ∀ o : Obj, B ≤ (w.alloc o).heap.size := fun o => by simp; omega
  have H := Lib.hid h'
  have HB := Lib.hid hB'
  have HNO := Lib.hid hno
  obtain ⟨what, th, ho, ad⟩ := d
  clear h' hB' h hno
  simp only [deedV, stepQ]
  by_cases e0 : what = 0
  · subst e0
    go_enter Try.func25, Try.ntmps25
    go_wp2_with fail
    refine ((rin_any (H.out _) h4 (HB.out _) th).mono fun _ _ hd => hd.alloc).mono ?_
    rintro e w' ⟨u, iv', mv', I', its', rfl, ho', hi, hk, hf⟩
    have HH := Lib.hid (show Own w' w.heap.size u _ ∧ IsQ w' B g iv' mv' _ I' its' ∧ Kept w w' (footQ g iv mv its) ∧ _ from ⟨ho', hi, hk, hf⟩)
    clear ho' hi hk hf
    go_wp2
    go_ret2
    exact ⟨u, iv', mv', I', its', rfl, HH.out⟩
  by_cases e1 : what = 1
  · subst e1
    go_enter Try.func25, Try.ntmps25
    go_wp2_with fail
    refine ((rout_any (H.out _) h4 (HB.out _) hl th).mono fun _ _ hd => hd.alloc).mono ?_
    rintro e w' ⟨u, iv', mv', I', its', rfl, ho', hi, hk, hf⟩
    have HH := Lib.hid (show Own w' w.heap.size u _ ∧ IsQ w' B g iv' mv' _ I' its' ∧ Kept w w' (footQ g iv mv its) ∧ _ from ⟨ho', hi, hk, hf⟩)
    clear ho' hi hk hf
    go_wp2
    go_ret2
    exact ⟨u, iv', mv', I', its', rfl, HH.out⟩
  by_cases e2 : what = 2
  · subst e2
    have HQ := Lib.hid (show holdQ q th ho ad = (q, [], (holdQ q th ho ad).2.2) by unfold holdQ; split <;> rfl)
    go_enter Try.func25, Try.ntmps25
    go_wp2_with fail
    refine (rhold_any (H.out _) th ho ad).mono ?_
    rintro e w' ⟨rfl, rfl⟩
    go_wp2
    go_ret2
    show DidQ w B g iv mv its (holdQ q th ho ad) _ _
    rw [HQ.out]
    exact ⟨_, iv, mv, I, its, rfl, Own.nil _ _, H.out _, (Kept.refl w _).alloc _, fun _ h => .inl h⟩
  by_cases e3 : what = 3
  · subst e3
    have HQ := Lib.hid (show bornQ q ad = (q, [], (bornQ q ad).2.2) by unfold bornQ; split <;> rfl)
    go_enter Try.func25, Try.ntmps25
    go_wp2_with fail
    refine (rborn_any (H.out _) h1 ad).mono ?_
    rintro e w' ⟨rfl, rfl⟩
    go_wp2
    go_ret2
    show DidQ w B g iv mv its (bornQ q ad) _ _
    rw [HQ.out]
    exact ⟨_, iv, mv, I, its, rfl, Own.nil _ _, H.out _, (Kept.refl w _).alloc _, fun _ h => .inl h⟩
  by_cases e4 : what = 4
  · subst e4
    go_enter Try.func25, Try.ntmps25
    go_wp2_with fail
    refine ((rretire_any (H.out _) HNO.out (HB.out _) hl th ad).mono fun _ _ hd => hd.alloc).mono ?_
    rintro e w' ⟨u, iv', mv', I', its', rfl, ho', hi, hk, hf⟩
    have HH := Lib.hid (show Own w' w.heap.size u _ ∧ IsQ w' B g iv' mv' _ I' its' ∧ Kept w w' (footQ g iv mv its) ∧ _ from ⟨ho', hi, hk, hf⟩)
    clear ho' hi hk hf
    go_wp2
    go_ret2
    exact ⟨u, iv', mv', I', its', rfl, HH.out⟩
  rw [if_neg e0, if_neg e1, if_neg e2, if_neg e3, if_neg e4]
  by_cases e5 : what = 5
  · subst e5
    go_enter Try.func25, Try.ntmps25
    go_wp2_with (go_at_call 39; refine rrest_any.mono ?_; rintro e w' ⟨rfl, rfl⟩)
    go_ret2
    exact ⟨_, iv, mv, I, its, rfl, Own.nil _ _, H.out _, (Kept.refl w _).alloc _, fun _ h => .inl h⟩
  · have b0 : (what == 0) = false := beq_eq_false_iff_ne.2 e0
    have b1 : (what == 1) = false := beq_eq_false_iff_ne.2 e1
    have b2 : (what == 2) = false := beq_eq_false_iff_ne.2 e2
    have b3 : (what == 3) = false := beq_eq_false_iff_ne.2 e3
    have b4 : (what == 4) = false := beq_eq_false_iff_ne.2 e4
    have b5 : (what == 5) = false := beq_eq_false_iff_ne.2 e5
    clear e0 e1 e2 e3 e4 e5
    go_enter Try.func25, Try.ntmps25
    go_wp2
    go_ret2
    exact ⟨_, iv, mv, I, its, rfl, Own.nil _ _, H.out _, (Kept.refl w _).alloc _, fun _ h => .inl h⟩
end
set_option maxHeartbeats 2000000 in
theorem alike_any {w : World} {B B' g g' : Nat} {v iv mv : Value} {q : Q} {I : List Int} {its : List It} (h : Is w B g v q) (h' : IsQ w B' g' iv mv q I its) (hI : Inv q) (hok : q.ok 0) (hl : q.ws.length < 100000) :
    Calls Try.prog 26 #[.pointer (some ⟨g, 0, none⟩), .pointer (some ⟨g', 0, none⟩)] w (Tells w true) := by
  have HOK := Lib.hid hok
  have hil : its.length < 1000000 := by rw [h'.len]; omega
  have HNO := Lib.hid (show ∀ x ∈ q.ws, x.2.no = false from fun x hx => (hI.ws x hx).1)
  have HFO := Lib.hid (show ∀ a, firstOf a its = forOf a q.ws from fun a => by rw [firstOf_for (by rw [h'.eqw]; exact hI.nd), h'.eqw])
  clear hok hI
  go_enter Try.func26, Try.ntmps26
  go_wp2_with fail
  refine (rwaiting_any h' hil).mono ?_
  rintro e w1 ⟨u1, rfl, o1, b1⟩
  have h1 := h.below b1
  have h1' := h'.below b1
  have s1 := b1.size
  obtain ⟨A1, c1, rfl, hc11, hc12⟩ := Row.shape o1
  have hc13 : c1 ≤ 9223372036854775807 := by simpa [maxLen] using hc12
  clear h h' hc12
  go_wp2_with fail
  refine (waiting_yes h1 HOK.out (by omega)).mono ?_
  rintro e w2 ⟨u2, rfl, o2, b2⟩
  have h2 := h1.below b2
  have h2' := h1'.below b2
  have o12 := Row.below o1 b2
  have b12 := Lib.hid (b1.trans (b2.mono s1))
  have s2 := b12.out.size
  clear h1 h1' b1 b2 o1
  go_wp2_with fail
  refine (ints_any (Row.rd o2) (Row.rd o12)).mono ?_
  rintro e w3 ⟨rfl, b3⟩
  rw [show decide (addrs q.ws = addrs q.ws) = true from decide_eq_true rfl]
  have HS3 := Lib.hid (h2.below b3)
  have HR3 := Lib.hid (h2'.below b3)
  have HO3 := Lib.hid (Row.below o12 b3)
  have b13 := Lib.hid (b12.out.trans (b3.mono s2))
  clear h2 h2' b3 o12 o2
  go_wp2_with fail
  go_loopw [6] (fun i wr => ∃ k : Nat, k ≤ (addrs q.ws).length ∧ i = .int .i64 k ∧ Below w3.heap.size w3 wr) (fun i _ => (addrs q.ws).length - (intOf i).toNat)
  case atStart => exact ⟨0, Nat.zero_le _, rfl, Below.refl _ _⟩
  case round =>
    obtain ⟨k, hk, rfl, hbel⟩ := hrel
    have hsz := hbel.size
    have HBL := Lib.hid hbel
    by_cases hlt : k < (addrs q.ws).length
    · have HSR := Lib.hid (HS3.out.below hbel)
      have HRR := Lib.hid (HR3.out.below hbel)
      have HOR := Lib.hid (Row.below HO3.out hbel)
      obtain ⟨bl, ol, rfl, hbl, hcell⟩ := (Row.rd HOR.out).one hlt
      have dk := hcell.trans (Qm.ints_at _ k hlt)
      obtain ⟨a, ha⟩ : ∃ a, (addrs q.ws)[k] = a := ⟨_, rfl⟩
      rw [ha] at dk
      clear hcell ha hbel
      go_wp2_with fail
      go_region_held3 (fun w' => w'.cell? ⟨bl, ol + k, none⟩ = some (.int .i64 a))
        (first | go_keep | exact za | exact zb | exact zc)
        (first
          | (go_at_call 15; refine (for_yes (by first | exact HSR.out | exact HSR.out.below ((Below.refl _ _).drew) | exact HSb.out) a HOK.out (by omega)).mono ?_; rintro e wa ⟨ua, rfl, oa, ba⟩; have bra : Below wr.heap.size wr wa := (by first | exact HBb.out.trans (ba.mono HBb.out.size) | exact ba | exact ((Below.refl _ _).drew).trans ba); have HBa := Lib.hid bra; have za := (bra.cell (p := ⟨bl, ol + k, none⟩) hbl).trans dk; have HSa := Lib.hid (HSR.out.below bra); have HRa := Lib.hid (HRR.out.below bra); have HOa := Lib.hid oa; (try have hoba := Lib.hid (Row.below HOb.out ba)); have hbla : bl < wa.heap.size := Nat.lt_of_lt_of_le hbl bra.size; clear oa ba bra)
          | (go_at_call 41; refine (rfor_any (by first | exact HRR.out | exact HRR.out.below ((Below.refl _ _).drew) | exact HRa.out) HNO.out hil a).mono ?_; rintro e wb ⟨ub, rfl, ob, bb⟩; rw [HFO.out] at ob; have brb : Below wr.heap.size wr wb := (by first | exact HBa.out.trans (bb.mono HBa.out.size) | exact bb | exact ((Below.refl _ _).drew).trans bb); have HBb := Lib.hid brb; have zb := (brb.cell (p := ⟨bl, ol + k, none⟩) hbl).trans dk; have HSb := Lib.hid (HSR.out.below brb); have HRb := Lib.hid (HRR.out.below brb); have HOb := Lib.hid ob; (try have hoab := Lib.hid (Row.below HOa.out bb)); have hblb : bl < wb.heap.size := Nat.lt_of_lt_of_le hbl brb.size; clear ob bb brb)
          | (go_at_call 14; refine (ints_any (by first | exact Row.rd hoab.out | exact Row.rd HOa.out) (by first | exact Row.rd HOb.out | exact Row.rd hoba.out)).mono ?_; rintro e wc ⟨rfl, bc⟩; rw [show decide (forOf a q.ws = forOf a q.ws) = true from decide_eq_true rfl]; have brc : Below wr.heap.size wr wc := (by first | exact HBa.out.trans (bc.mono HBa.out.size) | exact HBb.out.trans (bc.mono HBb.out.size)); have HBc := Lib.hid brc; have zc := (brc.cell (p := ⟨bl, ol + k, none⟩) hbl).trans dk; clear bc brc))
      all_goals
        go_wp2
        go_roundw
        case measure => simp [intOf]; omega
        case rel => exact ⟨k + 1, by omega, by go_num, HBL.out.trans (HBc.out.mono hsz)⟩
    · have hkn : k = (addrs q.ws).length := by omega
      clear hkn hbel
      go_wp2
      go_ret
      exact ⟨rfl, b13.out.trans (HBL.out.mono b13.out.size)⟩
/-- The two managers share no block. -/
def Disj (g : Nat) (v : Value) (g' : Nat) (iv mv : Value) (its : List It) : Prop := ∀ k, foot g v k → ¬ footQ g' iv mv its k
theorem Disj.left {w : World} {B g g' : Nat} {v v' iv mv : Value} {q : Q} {I : List Int} {its : List It} (h : Disj g v g' iv mv its) (h' : IsQ w B g' iv mv q I its) (hm : Moved w v v') : Disj g v' g' iv mv its := by
  rintro k (rfl | hk) hf
  · exact h k (.inl rfl) hf
  · rcases hm k hk with e | e
    · exact h k (.inr e) hf
    · have := h'.foot_lt k hf; omega
theorem Disj.right {w : World} {B g g' : Nat} {v iv mv iv' mv' : Value} {q : Q} {its its' : List It} (h : Disj g v g' iv mv its) (h' : Is w B g v q) (hm : ∀ k, footQ g' iv' mv' its' k → footQ g' iv mv its k ∨ w.heap.size ≤ k) : Disj g v g' iv' mv' its' := fun k hk hf => by
  rcases hm k hf with e | e
  · exact h k hk e
  · have := h'.foot_lt k hk; omega
theorem inv_no {q : Q} (h : Inv q) : ∀ x ∈ q.ws, x.2.no = false := fun x hx => (h.ws x hx).1
set_option maxHeartbeats 2000000 in
theorem plays_walk {w : World} {n : Int} {u : Value} {ds : List Deed} (hd : RdD w u ds) :
    Calls Try.prog 7 #[.int .i64 n, u] w (Tells w true) := by
  obtain ⟨A, c, rfl, hc1, hc2⟩ := hd.shape
  have Hd := Lib.hid hd
  clear hd
  by_cases hl : ds.length ≤ 200
  · by_cases hn : 1 ≤ n ∧ n ≤ 4
    · obtain ⟨n0, n4⟩ := hn
      go_enter Try.func7, Try.ntmps7
      go_wp2_with fail
      refine (new_yes n0 n4).mono ?_
      rintro e w1 ⟨rfl, h1, b1⟩
      have s1 := b1.size
      go_wp2_with fail
      refine (rnew_yes n0 n4).mono ?_
      rintro e w2 ⟨rfl, h2', b2⟩
      have h2 := h1.below b2
      have HD := Lib.hid (show Disj w.heap.size (.slice none 0 0) w1.heap.size (.slice none 0 0) (.slice none 0 0) [] from fun k hk hf => by
        have e1 := h1.foot_lt k hk
        have e2 := h2'.foot_lo k hf
        omega)
      have B2 := Lib.hid (b1.trans (b2.mono s1))
      have s2 := B2.out.size
      have h2r : IsQ w2 w.heap.size w1.heap.size (.slice none 0 0) (.slice none 0 0) (q0 n) [] [] := ⟨s1, h2'.blk, Own.nil _ _, World.ownsRow_nil _ _ _ _, fun x hx => (by cases hx), fun x hx => (by cases hx), rfl, h2'.mem, h2'.ins⟩
      clear h1 b1 b2 h2'
      go_wp2_with fail
      refine (bound_yes n0 n4).mono ?_
      rintro e w3 ⟨rfl, rfl⟩
      go_wp2_with fail
      refine (rbound_yes n0 n4).mono ?_
      rintro e w3 ⟨rfl, rfl⟩
      go_wp2_with fail
      go_loopw [13] (fun i wr => ∃ (k : Nat) (v iv mv : Value) (q : Q) (I : List Int) (its : List It), k ≤ ds.length ∧ i = .int .i64 k ∧ Is wr w.heap.size w.heap.size v q ∧ IsQ wr w.heap.size w1.heap.size iv mv q I its ∧ Hid (Disj w.heap.size v w1.heap.size iv mv its) ∧ Hid (q.n = n) ∧ Hid (Inv q) ∧ q.ws.length ≤ k ∧ Below w.heap.size w wr) (fun i _ => ds.length - (intOf i).toNat)
      case atStart => exact ⟨0, _, _, _, q0 n, [], [], Nat.zero_le _, rfl, h2, h2r, HD.out, rfl, inv_q0 n, Nat.le_refl _, B2.out⟩
      case round =>
        clear h2 h2r
        obtain ⟨k, v, iv, mv, q, I, its, hk, rfl, hi, hr, hdj, hqn, hinv, hql, hbel⟩ := hrel
        by_cases hlt : k < ds.length
        · obtain ⟨b, off, rfl, hb, d0, d1, d2, d3⟩ := RdD.at_ (Hd.out.below hbel) hlt
          have hsz := hbel.size
          have HB := Lib.hid hbel
          have HOK := Lib.hid (show (stepQ q ds[k]).1.ok 0 from ⟨Int.le_refl 0, by rw [step_n, hqn.out]; omega⟩)
          have hq1 : 1 ≤ q.n := by rw [hqn.out]; exact n0
          have hq4 : q.n ≤ 4 := by rw [hqn.out]; exact n4
          have hil : its.length < 900000 := by rw [hr.len]; omega
          have hsl := step_len q ds[k]
          have HIS := Lib.hid (inv_step hinv.out ds[k])
          clear hbel
          go_wp2_with fail
          refine (done_did hi hq4 hsz (by omega) ds[k]).mono ?_
          rintro e wa ⟨ua, v', rfl, oa, ia, ka, ma⟩
          have ba := HB.out.trans (ka.below hsz hi.foot_lo)
          have hra := hr.keep ka (fun i hf hs => hdj.out i hs hf)
          have HDA := Lib.hid (hdj.out.left hr ma)
          obtain ⟨b', off', hA', hb', d0', d1', d2', d3'⟩ := RdD.at_ (Hd.out.below ba) hlt
          injection hA' with hA'
          injection hA' with e1 e2
          subst e1 e2
          have BA := Lib.hid ba
          have sa := ba.size
          clear hi ka ma ba d0 d1 d2 d3
          go_wp2_with fail
          refine (told_did hra hq1 hq4 (inv_no hinv.out) sa hil ds[k]).mono ?_
          rintro e wb ⟨ux, iv', mv', I', its', rfl, ox, ix, kx, mx⟩
          have bb := BA.out.trans (kx.below sa hra.foot_lo)
          have iab := ia.keep kx (fun i hf hs => HDA.out i hf hs)
          have oab := Row.keep oa kx (fun i hi hf => absurd (Row.at_lt oa hi).1 (by have := hr.foot_lt i hf; omega))
          have HDB := Lib.hid (HDA.out.right ia mx)
          have BB := Lib.hid bb
          have sb := bb.size
          have hee : ((stepQ q ds[k]).2.2 == (stepQ q ds[k]).2.2) = true := beq_iff_eq.2 rfl
          have hen : ((stepQ q ds[k]).2.2 != (stepQ q ds[k]).2.2) = false := by simp
          clear ia oa hra kx mx bb d0' d1' d2' d3'
          go_wp2_with fail
          refine (ints_any (Row.rd oab) (Row.rd ox)).mono ?_
          rintro e wd ⟨rfl, bd⟩
          rw [show decide ((stepQ q ds[k]).2.1 = (stepQ q ds[k]).2.1) = true from decide_eq_true rfl]
          have j1 := iab.below bd
          have j2 := ix.below bd
          have BD := Lib.hid (BB.out.trans (bd.mono sb))
          have sd := BD.out.size
          clear iab ix bd oab ox
          go_wp2_with fail
          refine (alike_any j1 j2 HIS.out HOK.out (by omega)).mono ?_
          rintro e we ⟨rfl, be⟩
          have J1 := Lib.hid (j1.below be)
          have J2 := Lib.hid (j2.below be)
          have BE := Lib.hid (BD.out.trans (be.mono sd))
          clear j1 j2 be
          go_wp2
          go_roundw
          case measure => simp [intOf]; omega
          case rel => exact ⟨k + 1, v', iv', mv', _, I', its', by omega, by go_num, J1.out, J2.out, HDB.out, by show (stepQ q ds[k]).1.n = n; rw [step_n]; exact hqn.out, HIS.out, by omega, BE.out⟩
        · have HB := Lib.hid hbel
          have hsz := hbel.size
          clear hbel hi hr
          go_wp2_with (go_at_call 10; refine (sane_any _).mono ?_; rintro e w6 ⟨rfl, b7⟩)
          go_ret
          exact ⟨rfl, HB.out.trans (b7.mono hsz)⟩
    · have Hn := Lib.hid hn
      clear hn
      by_cases hp : 0 < ds.length
      · go_enter Try.func7, Try.ntmps7
        go_wp2_with fail
        refine (new_no Hn.out).mono ?_
        rintro e w1 ⟨rfl, rfl⟩
        go_wp2_with fail
        refine (rnew_no Hn.out).mono ?_
        rintro e w1 ⟨rfl, rfl⟩
        go_wp2_with fail
        refine (bound_no Hn.out).mono ?_
        rintro e w1 ⟨rfl, rfl⟩
        go_wp2_with fail
        refine (rbound_no Hn.out).mono ?_
        rintro e w1 ⟨rfl, rfl⟩
        go_wp2_with fail
        refine wp_loop_rounds 1 ?_
        rw [rounds_succ]
        go_wp2_with fail
        refine (sane_any _).mono ?_
        rintro e w6 ⟨rfl, b7⟩
        go_wp2
        go_ret
        exact ⟨rfl, b7⟩
      · go_enter Try.func7, Try.ntmps7
        go_wp2_with fail
        refine (new_no Hn.out).mono ?_
        rintro e w1 ⟨rfl, rfl⟩
        go_wp2_with fail
        refine (rnew_no Hn.out).mono ?_
        rintro e w1 ⟨rfl, rfl⟩
        go_wp2_with fail
        refine (bound_no Hn.out).mono ?_
        rintro e w1 ⟨rfl, rfl⟩
        go_wp2_with fail
        refine (rbound_no Hn.out).mono ?_
        rintro e w1 ⟨rfl, rfl⟩
        go_wp2_with fail
        refine wp_loop_rounds 1 ?_
        rw [rounds_succ]
        go_wp2_with fail
        refine (sane_any _).mono ?_
        rintro e w6 ⟨rfl, b7⟩
        go_wp2
        go_ret
        exact ⟨rfl, b7⟩
  · go_enter Try.func7, Try.ntmps7
    go_wp2_with (go_at_call 10; refine (sane_any _).mono ?_; rintro e w6 ⟨rfl, b7⟩)
    go_ret
    exact ⟨rfl, b7⟩
end Go.Proofs.Ytdgkdfblgeobmaa
