/-
  The walks of For, Clone and Copy.
-/
import Derived.Test.YtdgkdfblgeobmaaWalks3
import Derived.WalkSpells
set_option linter.unusedVariables false
set_option linter.unusedSimpArgs false
namespace Go.Proofs.Ytdgkdfblgeobmaa
open Go.RowKit Mem Qm
set_option maxRecDepth 100000

/-- Those of the first j threads that are in it. -/
def upto (x : Cr) : Nat → List Int
  | 0 => []
  | j + 1 => upto x j ++ (if x.get (j : Int) then [(j : Int)] else [])
theorem upto_all (x : Cr) : upto x 4 = x.list := by
  obtain ⟨a, b, c, d⟩ := x
  cases a <;> cases b <;> cases c <;> cases d <;> rfl
theorem upto_len (x : Cr) : ∀ j, (upto x j).length ≤ j
  | 0 => Nat.le_refl 0
  | j + 1 => by have := upto_len x j; simp only [upto, List.length_append]; split <;> simp <;> omega
theorem forOf_snoc {a : Int} {ws : List W} {k : Nat} (h : k < ws.length) : forOf a (ws.take (k + 1)) = forOf a (ws.take k) ++ (if ws[k].1 = a then ws[k].2.list else []) := by
  rw [take_snoc h, forOf, List.flatMap_append]; simp [forOf]
theorem forOf_len (a : Int) : ∀ ws : List W, (forOf a ws).length ≤ ws.length * 4
  | [] => by simp [forOf]
  | x :: t => by
    have ih := forOf_len a t
    have h4 := upto_len x.2 4
    rw [upto_all] at h4
    simp only [forOf, List.flatMap_cons, List.length_append, List.length_cons] at ih ⊢
    by_cases hx : x.1 = a
    · rw [if_pos hx]; omega
    · rw [if_neg hx]; simp only [List.length_nil]; omega
theorem ix0 (x : Cr) (w : World) : (Instr.index 53 (.agg #[.bool x.a, .bool x.b, .bool x.c, .bool x.d]) (.int .i64 0)).run Try.prog w = .ok (.bool x.a) w := by kernel_rfl
theorem ix1 (x : Cr) (w : World) : (Instr.index 53 (.agg #[.bool x.a, .bool x.b, .bool x.c, .bool x.d]) (.int .i64 1)).run Try.prog w = .ok (.bool x.b) w := by kernel_rfl
theorem ix2 (x : Cr) (w : World) : (Instr.index 53 (.agg #[.bool x.a, .bool x.b, .bool x.c, .bool x.d]) (.int .i64 2)).run Try.prog w = .ok (.bool x.c) w := by kernel_rfl
theorem ix3 (x : Cr) (w : World) : (Instr.index 53 (.agg #[.bool x.a, .bool x.b, .bool x.c, .bool x.d]) (.int .i64 3)).run Try.prog w = .ok (.bool x.d) w := by kernel_rfl
theorem index_crowd (x : Cr) (w : World) (j : Nat) (hj : j < 4) : (Instr.index 53 (.agg #[.bool x.a, .bool x.b, .bool x.c, .bool x.d]) (.int .i64 (j : Int))).run Try.prog w = .ok (.bool (x.get j)) w := by
  rcases (show j = 0 ∨ j = 1 ∨ j = 2 ∨ j = 3 by omega) with rfl | rfl | rfl | rfl
  · exact ix0 x w
  · exact ix1 x w
  · exact ix2 x w
  · exact ix3 x w
set_option maxHeartbeats 1000000 in
theorem for_yes {w : World} {B g : Nat} {v : Value} {q : Q} (h : Is w B g v q) (a : Int) (ht : q.ok 0) (hl : q.ws.length < 200000) :
    Calls Try.prog 15 #[.pointer (some ⟨g, 0, none⟩), .int .i64 a] w (Gives (forOf a q.ws) w) := by
  have H := Lib.hid ht
  clear ht
  have c5 := h.blk.cell 5 rfl
  obtain ⟨A, c, rfl, hc1, hc2⟩ := Row.shape h.row
  have hc3 : c ≤ 9223372036854775807 := by simpa [maxLen] using hc2
  clear hc2
  have hrd := Lib.hid (Row.rd h.row)
  go_enter Try.func15, Try.ntmps15
  go_wp2_with (go_at_call 31; refine (has_yes h _ H.out).mono ?_; rintro e w' ⟨rfl, rfl⟩)
  go_loopw [5, 18] (fun u i wr => ∃ k : Nat, k ≤ q.ws.length ∧ i = .int .i64 k ∧ Own wr w.heap.size u (forOf a (q.ws.take k)) ∧ Below w.heap.size w wr) (fun _ i _ => q.ws.length - (intOf i).toNat)
  case atStart => exact ⟨0, Nat.zero_le _, rfl, Own.nil _ _, Below.refl _ _⟩
  case round =>
    obtain ⟨k, hk, rfl, hown, hbel⟩ := hrel
    by_cases hlt : k < q.ws.length
    · obtain ⟨b, off, rfl, hb, hcell⟩ := Rd.elem (hrd.out.below hbel) hlt
      have hat := fun i hi => (hcell i hi).trans (flat_at q.ws k hlt i hi)
      have d0 := hat 0 (by decide)
      have d1 := hat 1 (by decide)
      have d2 := hat 2 (by decide)
      have d3 := hat 3 (by decide)
      have d4 := hat 4 (by decide)
      clear hcell hat
      simp only [wCells, List.getElem?_cons_zero, List.getElem?_cons_succ, Nat.add_zero] at d0 d1 d2 d3 d4
      have Htk := Lib.hid (forOf_snoc (a := a) hlt)
      have hlen : (forOf a (q.ws.take k)).length < 900000 := by have := forOf_len a (q.ws.take k); simp at this; omega
      have hsz := hbel.size
      have HB := Lib.hid hbel
      have HO := Lib.hid hown
      clear hbel hown
      have hix : ∀ (W0 : World) (j : Nat), j < 4 → (Instr.index 53 (.agg #[.bool q.ws[k].2.a, .bool q.ws[k].2.b, .bool q.ws[k].2.c, .bool q.ws[k].2.d]) (.int .i64 (j : Int))).run Try.prog W0 = .ok (.bool (q.ws[k].2.get j)) W0 := fun W0 j hj => index_crowd _ W0 j hj
      have Hix := Lib.hid hix
      clear hix
      go_wp2_with fail
      obtain ⟨wq, hwq⟩ : ∃ wq : World, wq = wr := ⟨_, rfl⟩
      subst hwq
      obtain ⟨wo, hwo⟩ : ∃ wo : World, wo = wq.alloc (.cells #[.int .i64 q.ws[k].1, .bool q.ws[k].2.a, .bool q.ws[k].2.b, .bool q.ws[k].2.c, .bool q.ws[k].2.d] 62) := ⟨_, rfl⟩
      have hbx := Blk.new wq 62 [.int .i64 q.ws[k].1, .bool q.ws[k].2.a, .bool q.ws[k].2.b, .bool q.ws[k].2.c, .bool q.ws[k].2.d]
      have hwb : Below w.heap.size w wo := by rw [hwo]; exact HB.out.alloc hsz _
      have hwu : Own wo w.heap.size u5 (forOf a (q.ws.take k)) := by rw [hwo]; exact World.ownsRow.alloc HO.out _
      rw [← hwo]
      have hbx : Blk wo wq.heap.size 62 [.int .i64 q.ws[k].1, .bool q.ws[k].2.a, .bool q.ws[k].2.b, .bool q.ws[k].2.c, .bool q.ws[k].2.d] := by rw [hwo]; exact Blk.new wq 62 _
      have hwz : wo.heap.size = wq.heap.size + 1 := by rw [hwo]; simp
      have HZ := Lib.hid hwz
      have HWB := Lib.hid hwb
      have HBX := Lib.hid hbx
      have HWU := Lib.hid hwu
      clear hwo hwz hwb hbx hwu d0 d1 d2 d3 d4
      go_loopw [5, 24] (fun u i wr1 => ∃ j : Nat, j ≤ 4 ∧ i = .int .i64 j ∧ Own wr1 w.heap.size u (forOf a (q.ws.take k) ++ (if q.ws[k].1 = a then upto q.ws[k].2 j else [])) ∧ Below w.heap.size w wr1 ∧ Blk wr1 wq.heap.size 62 [.int .i64 q.ws[k].1, .bool q.ws[k].2.a, .bool q.ws[k].2.b, .bool q.ws[k].2.c, .bool q.ws[k].2.d]) (fun _ i _ => 4 - (intOf i).toNat)
      case atStart => exact ⟨0, by omega, rfl, by simpa [upto] using HWU.out, HWB.out, HBX.out⟩
      case round =>
        obtain ⟨j, hj, rfl, hown1, hbw, hbox⟩ := hrel
        have e0 := hbox.cell 0 rfl
        have HBOX := Lib.hid hbox
        have hsw := hbw.size
        by_cases hjl : j < 4
        · have hix := fun W0 => Hix.out W0 j hjl
          have hlen1 : (forOf a (q.ws.take k) ++ (if q.ws[k].1 = a then upto q.ws[k].2 j else [])).length < 1000000 := by
            have := upto_len q.ws[k].2 j
            rw [List.length_append]
            split <;> simp <;> omega
          have Hup := Lib.hid (show upto q.ws[k].2 (j + 1) = upto q.ws[k].2 j ++ (if q.ws[k].2.get (j : Int) then [(j : Int)] else []) from rfl)
          have HBL := Lib.hid hbw
          by_cases hxa : q.ws[k].1 = a
          · have hxb : (q.ws[k].1 == a) = true := beq_iff_eq.2 hxa
            have HXA := Lib.hid hxa
            clear hxa
            cases hgt : q.ws[k].2.get j with
            | true =>
              have Hgt := Lib.hid hgt
              rw [hgt] at hix
              clear hgt
              go_wp2_with (at_builtin; refine wpList_append_int rfl (.tmp 35) (.tmp 37) rfl Try.underlying28 info3 w.heap.size u5 (forOf a (q.ws.take k) ++ (if q.ws[k].1 = a then upto q.ws[k].2 j else [])) _ _ rfl hown1 rfl ?c1 hsw hlen1 ?_)
              case c1 => rfl
              intro v1 w1 ho1 hk1 hm1
              go_wp2
              refine ⟨⟨v1, _, _, _, ⟨j + 1, by omega, by go_num, ?_, HBL.out.trans (hk1.below HBL.out.size (fun i hi => (Row.at_lt hown1 hi).1)), ?_⟩, rfl, rfl, rfl, rfl⟩, by simp [intOf]; omega⟩
              · rw [Hup.out, Hgt.out]
                simpa [HXA.out] using ho1
              · have := HBOX.out.keep hk1 (fun e => Row.ne_blk hown1 HBOX.out (by decide) e)
                rw [HXA.out] at this
                exact this
            | false =>
              have Hgt := Lib.hid hgt
              rw [hgt] at hix
              clear hgt
              go_wp2
              go_roundw
              case measure => simp [intOf]; omega
              case rel =>
                refine ⟨j + 1, by omega, by go_num, ?_, HBL.out, HBOX.out⟩
                rw [Hup.out, Hgt.out]
                simpa using hown1
          · have hxb : (q.ws[k].1 == a) = false := beq_eq_false_iff_ne.2 hxa
            have HXA := Lib.hid hxa
            clear hxa
            go_wp2
            go_roundw
            case measure => simp [intOf]; omega
            case rel =>
              refine ⟨j + 1, by omega, by go_num, ?_, HBL.out, HBOX.out⟩
              rw [if_neg HXA.out]
              rw [if_neg HXA.out] at hown1
              exact hown1
        · have hj4 : j = 4 := by omega
          subst hj4
          have HO1 := Lib.hid hown1
          have HBW := Lib.hid hbw
          clear hown1 hbw
          go_wp2
          go_roundw
          case measure => simp [intOf]; omega
          case rel =>
            refine ⟨k + 1, by omega, by go_num, ?_, HBW.out⟩
            rw [Htk.out, ← upto_all]
            exact HO1.out
    · have hkn : k = q.ws.length := by omega
      have Hkn := Lib.hid hkn
      clear hkn
      go_wp2
      go_ret
      exact ⟨u5, rfl, by rw [Hkn.out, List.take_length] at hown; exact hown, hbel⟩
/-- A copy of a row. -/
theorem clone_any {w : World} {B : Nat} {v : Value} {ws : List W} (h : Row w B 62 5 v ws.length (flat ws)) (hl : ws.length < 1000000) :
    Calls Try.prog 42 #[v] w fun e w' => ∃ u, e = .returned u ∧ Row w' w.heap.size 62 5 u ws.length (flat ws) ∧ Below w.heap.size w w' := by
  rcases h.2 with ⟨rfl, hn⟩ | ⟨g, cap, cur, rfl, hb, hg, hc1, hc2, hc3, hc4⟩
  · obtain rfl := List.eq_nil_of_length_eq_zero hn
    have he := fun W0 : World => Lib.run_eql_slice_nil (P := Try.prog) W0 54 62 none 0 0 0 0 Try.underlying54
    go_enter Try.func42, Try.ntmps42
    go_wp2
    go_ret
    exact ⟨_, rfl, World.ownsRow_nil _ _ _ _, Below.refl _ _⟩
  · obtain ⟨i0, hi0, hz0, hz1, hz2⟩ := info_parts info62
    have hrd := Row.rd h
    obtain ⟨hlen, A', c', hv, _, _, hcell⟩ := hrd
    have H := Lib.hid h
    clear h
    have he := fun W0 : World => Lib.run_eql_slice_nil (P := Try.prog) W0 54 62 (some ⟨g, 0, none⟩) ws.length cap 0 0 Try.underlying54
    go_enter Try.func42, Try.ntmps42
    go_wp2_with (at_builtin; refine wpList_append_own_at _ rfl (.tmp 5) (.tmp 6) 54 rfl w.heap.size 62 i0 _ 5 16 Try.underlying54 hi0 hz0 hz1 hz2 rfl (by decide) (.slice (some ⟨w.heap.size, 0, none⟩) 0 0) 0 [] rfl ?c0 ⟨g, 0, none⟩ ws.length cap (flat ws) rfl (flat_length ws) ?c1 ?c2 ?c3 ?c4 ?c5 ?_)
    case c0 => exact World.ownsRow_made w #[] 0 (Nat.le_refl _) (by simp [maxLen]) (by simp)
    case c1 =>
      intro j u hu
      have hj : j < (flat ws).length := (List.getElem?_eq_some_iff.1 hu).1
      obtain ⟨b', off', hA, hlt, hc⟩ := hcell (by rw [flat_length] at hj; omega)
      injection hA with hA
      injection hA with hA1 hA2
      subst hA1 hA2
      rw [show (⟨g, 0, none⟩ : Addr).add j = ⟨g, 0 + j, none⟩ by unfold Addr.add; split <;> simp_all, World.cell?_alloc_past _ _ _ hlt]
      exact hc j u hu
    case c2 =>
      intro u hu
      simp only [flat, List.mem_flatMap] at hu
      obtain ⟨x, _, hx⟩ := hu
      simp only [wCells, List.mem_cons, List.not_mem_nil, or_false] at hx
      rcases hx with rfl | rfl | rfl | rfl | rfl <;> rfl
    case c3 => simp only [maxLen]; omega
    case c4 => omega
    case c5 => simp
    intro v1 w1 hown hgr _ _
    try simp only [Nat.zero_add, List.nil_append] at hown
    have hbel : Below w.heap.size w w1 := ((Below.refl _ w).alloc (Nat.le_refl _) _).grown hgr (by simp) (fun k hk => by simp [Value.ownBlock] at hk; omega)
    clear hcell hgr
    go_wp2
    go_ret
    exact ⟨v1, rfl, hown, hbel⟩
/-- A copy of a manager. -/
def Copied (w : World) (q : Q) (e : Ending) (w' : World) : Prop := ∃ g v, e = .returned (.pointer (some ⟨g, 0, none⟩)) ∧ Is w' w.heap.size g v q ∧ Below w.heap.size w w'
set_option maxHeartbeats 400000 in
theorem copy_yes {w : World} {B g : Nat} {v : Value} {q : Q} (h : Is w B g v q) (ht : q.ok 0) (hl : q.ws.length < 1000000) :
    Calls Try.prog 27 #[.pointer (some ⟨g, 0, none⟩)] w (Copied w q) := by
  have H := Lib.hid ht
  clear ht
  have c0 := h.blk.cell 0 rfl
  have c1 := h.blk.cell 1 rfl
  have c2 := h.blk.cell 2 rfl
  have c3 := h.blk.cell 3 rfl
  have c4 := h.blk.cell 4 rfl
  have c5 := h.blk.cell 5 rfl
  have hglt := h.blk.lt
  obtain ⟨A, c, rfl, hc1, hc2⟩ := Row.shape h.row
  have hrow := Lib.hid h.row
  go_enter Try.func27, Try.ntmps27
  go_wp2_with (go_at_call 31; refine (has_yes h _ H.out).mono ?_; rintro e w' ⟨rfl, rfl⟩)
  refine (clone_any (World.ownsRow.alloc hrow.out _) hl).mono ?_
  rintro e w1 ⟨u, rfl, ho, hb⟩
  have hblk : Blk w1 w.heap.size 56 [.int .i64 q.n, .bool q.ins.a, .bool q.ins.b, .bool q.ins.c, .bool q.ins.d, .slice A q.ws.length c] := (Blk.new w 56 _).below hb
  have e5 := hblk.cell 5 rfl
  have g5 := hblk.free 5
  obtain ⟨A1, k1, rfl, _, _⟩ := Row.shape ho
  have hbw : Below w.heap.size w w1 := ((Below.refl _ w).alloc (Nat.le_refl _) _).trans (hb.mono (by simp))
  have HO := Lib.hid ho
  have HB := Lib.hid hblk
  have HW := Lib.hid hbw
  clear ho hblk hbw hb
  go_wp2
  go_ret
  refine ⟨_, _, rfl, ⟨Nat.le_refl _, HB.out.set 5 _, Row.mono (Row.keep HO.out ((Kept.refl w1 (fun i => i = w.heap.size)).setCell (.inl rfl) _) (fun i hi e => Row.ne_blk HO.out HB.out (by decide) (e ▸ hi))) (by simp)⟩, HW.out.setCell (Nat.le_refl _) _⟩
end Go.Proofs.Ytdgkdfblgeobmaa
