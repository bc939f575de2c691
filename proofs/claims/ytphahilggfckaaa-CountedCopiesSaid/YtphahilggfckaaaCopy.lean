/-
  The walks of the clones and of Copy.
-/
import Derived.Test.YtphahilggfckaaaLaws2
import Derived.WalkSpells
import Derived.Laws.Externs
import Derived.MapKept
set_option linter.unusedVariables false
set_option linter.unusedSimpArgs false
namespace Go.Proofs.Ytphahilggfckaaa
open Go.RowKit Mem Qm
set_option maxRecDepth 100000

section
variable {P : Program} (w : World)
theorem eql_map_in (d : Nat) (t k e : TypeId) (p : Option Nat) (h : P.underlying t = some (.map k e)) : (Op.equalIn (d + 1) t (.map p) (.map none)).run P w = .ok p.isNone w := by
  cases p <;> simp [Op.equalIn, run_underlying h]
theorem eql_map_nil (t k e : TypeId) (p : Option Nat) (h : P.underlying t = some (.map k e)) : (binOp .eql t (.map p) (.map none)).run P w = .ok (.bool p.isNone) w := by
  simp only [binOp]
  simp [show Op.equal t (.map p) (.map none) = Op.equalIn (9999 + 1) t (.map p) (.map none) from rfl, eql_map_in w 9999 t k e p h]
theorem assert_map (t xT k e : TypeId) (v : Value) (h : P.underlying t = some (.map k e)) : (Instr.typeAssert (.iface t v) xT t false).run P w = .ok v w := by
  simp [Instr.typeAssert, run_underlying h, go_sem, Result.andThen]
theorem extern_clone {r : Nat} {es : Array MapEntry} {clock : Nat} (t : TypeId) (hb : w.heap[r]? = some (.map es clock)) :
    (Extern.MapsClone.clone #[.iface t (.map (some r))]).run P w = .ok (.iface t (.map (some w.heap.size))) (w.alloc (.map es clock)) := by
  have e : Extern.MapsClone.clone #[.iface t (.map (some r))] = (getObj r >>= fun o => match o with
      | .map entries clock => (newObj (.map entries clock) >>= fun n => pure (.iface t (.map (some n))))
      | _ => stuck "maps.clone: a map expected") := rfl
  rw [e]
  simp [MapKept.run_getObj_map hb, Result.andThen, go_sem]
end
/-- A copy of a map. -/
theorem clone_map {w : World} {b n : Nat} {f : Int → Int} (h : MapI Try.prog w b n f) :
    Calls Try.prog 46 #[.map (some b)] w fun e w' => e = .returned (.map (some w.heap.size)) ∧ MapI Try.prog w' w.heap.size n f ∧ Below w.heap.size w w' := by
  obtain ⟨D, h1, ⟨es, clock, hb, F, hs, hD⟩, h3⟩ := h
  have hq := fun w => eql_map_nil (P := Try.prog) w 67 _ _ (some b) Try.underlying67
  have H := Lib.hid (show MapI Try.prog (w.alloc (.map es clock)) w.heap.size n f from ⟨D, h1, ⟨es, clock, (MapKept.heap_alloc w _).1, F, hs, hD⟩, h3⟩)
  clear h1 F hs hD h3
  go_enter Try.func46, Try.ntmps46
  go_wp2
  rw [run_callFunc_extern Try.func54 (by kernel_rfl) (by kernel_rfl) (by kernel_rfl) (e := Extern.MapsClone.clone) (by kernel_rfl), extern_clone w 67 hb]
  simp only [Result.andThen]
  rw [Oper.upon_value]
  go_wp2
  rw [assert_map _ 67 20 _ _ _ Try.underlying67]
  simp only [Result.andThen]
  rw [Oper.upon_value]
  go_wp2
  go_ret
  exact ⟨rfl, H.out, (Below.refl _ _).alloc (Nat.le_refl _) _⟩
/-- A copy of the holds. -/
theorem hclone_any {w : World} {gh n cap : Nat} {hs : List Int} {rest : List Value} (h : Blk w gh 30 (ints hs ++ rest)) (hl : hs.length = n * 3) (hn : n ≤ 4) :
    Calls Try.prog 45 #[.slice (some ⟨gh, 0, none⟩) n cap] w fun e w' => ∃ u, e = .returned u ∧ Row w' w.heap.size 30 3 u n (ints hs) ∧ Below w.heap.size w w' := by
  obtain ⟨i0, hi0, hz0, hz1, hz2⟩ := info_one info30
  have H := Lib.hid h
  have hlt := h.lt
  have HL := Lib.hid hl
  clear h hl
  have he := fun W0 : World => Lib.run_eql_slice_nil (P := Try.prog) W0 66 30 (some ⟨gh, 0, none⟩) n cap 0 0 Try.underlying66
  go_enter Try.func45, Try.ntmps45
  go_wp2_with (at_builtin; refine wpList_append_own_at _ rfl (.tmp 5) (.tmp 6) 66 rfl w.heap.size 30 i0 _ 3 24 Try.underlying66 hi0 hz0 hz1 hz2 rfl (by decide) (.slice (some ⟨w.heap.size, 0, none⟩) 0 0) 0 [] rfl ?c0 ⟨gh, 0, none⟩ n cap (ints hs) rfl (by rw [ints_length]; exact HL.out) ?c1 ?c2 ?c3 ?c4 ?c5 ?_)
  case c0 => exact World.ownsRow_made w #[] 0 (Nat.le_refl _) (by simp [maxLen]) (by simp)
  case c1 =>
    intro j u hu
    have hj : j < (ints hs).length := (List.getElem?_eq_some_iff.1 hu).1
    rw [show (⟨gh, 0, none⟩ : Addr).add j = ⟨gh, j, none⟩ by unfold Addr.add; split <;> simp_all, World.cell?_alloc_past _ _ _ hlt]
    exact H.out.cell j ((List.getElem?_append_left hj).trans hu)
  case c2 =>
    intro u hu
    simp only [ints, List.mem_map] at hu
    obtain ⟨x, _, rfl⟩ := hu
    rfl
  case c3 => simp only [maxLen]; omega
  case c4 => omega
  case c5 => simp
  intro v1 w1 hown hgr _ _
  have HO := Lib.hid (show Row w1 w.heap.size 30 3 v1 n (ints hs) by simpa using hown)
  have hbel : Below w.heap.size w w1 := ((Below.refl _ w).alloc (Nat.le_refl _) _).grown hgr (by simp) (fun k hk => by simp [Value.ownBlock] at hk; omega)
  clear hgr hown
  go_wp2
  go_ret
  exact ⟨v1, rfl, HO.out, hbel⟩
def _root_.Go.Proofs.Ytphahilggfckaaa.Qm.Q.room (q : Q) (cap : Nat) (rest : List Value) : Q := { q with cap := cap, rest := rest }
/-- A copy of a manager. -/
def Copied (w : World) (N : Nat) (q : Q) (e : Ending) (w' : World) : Prop := ∃ g gh b v cap rest, e = .returned (.pointer (some ⟨g, 0, none⟩)) ∧ IsC w' w.heap.size g gh b N v (q.room cap rest) ∧ Below w.heap.size w w'
theorem copied_end {w w1 w2 w3 : World} {N : Nat} {q : Q} {u v3 : Value} (hn : 1 ≤ q.n) (hl : q.hs.length = q.n * 3) (h1 : Row w1 w.heap.size 30 3 u q.n (ints q.hs)) (hb1 : Below w.heap.size w w1) (hm : MapI Try.prog w2 w1.heap.size N q.c) (hb2 : Below w1.heap.size w1 w2)
    (h3 : Own w3 w2.heap.size v3 q.ws) (hb3 : Below w2.heap.size w2 w3) : Copied w N q (.returned (.pointer (some ⟨w3.heap.size, 0, none⟩))) (w3.alloc (.cells #[u, .map (some w1.heap.size), v3] 69)) := by
  obtain ⟨gh, cap, rfl, hgB, hgl, _, _, cur, hg, hcs, hct⟩ := Row.form h1 (by omega)
  have s1 := hb1.size
  have s2 := hb2.size
  have s3 := hb3.size
  have bA : Below w3.heap.size w3 (w3.alloc (.cells #[.slice (some ⟨gh, 0, none⟩) q.n cap, .map (some w1.heap.size), v3] 69)) := (Below.refl _ _).alloc (Nat.le_refl _) _
  have b13 := (hb2.trans (hb3.mono s2)).trans (bA.mono (by omega))
  refine ⟨_, gh, w1.heap.size, v3, cap, cur.toList.drop (q.n * 3), rfl, ⟨by omega, hgB, s1, Blk.new w3 69 _, ?_, (hm.below hb3).below bA, Row.mono (Row.below h3 bA) (by omega), hl⟩, hb1.trans (b13.mono s1)⟩
  have : Blk w1 gh 30 (ints q.hs ++ cur.toList.drop (q.n * 3)) := by
    rw [← hct, List.take_append_drop]
    simpa [Blk] using hg
  exact this.below b13
set_option maxHeartbeats 1000000 in
theorem copy_yes {w : World} {B g gh b N : Nat} {v : Value} {q : Q} (h : IsC w B g gh b N v q) (ht : q.ok 0) (h4 : q.n ≤ 4) (hl : q.ws.length < 1000000) :
    Calls Try.prog 32 #[.pointer (some ⟨g, 0, none⟩)] w (Copied w N q) := by
  have HT := Lib.hid ht
  have HN := Lib.hid (show 1 ≤ q.n by have := ht.2; omega)
  have HLN := Lib.hid h.len
  have c0 := h.blk.cell 0 rfl
  have c1 := h.blk.cell 1 rfl
  have c2 := h.blk.cell 2 rfl
  have hgl := h.blk.lt
  obtain ⟨A, c, rfl, hc1, hc2⟩ := Row.shape h.row
  have H := Lib.hid h
  clear ht h hc2
  go_enter Try.func32, Try.ntmps32
  go_wp2_with fail
  refine (has_yes H.out _ HT.out).mono ?_
  rintro e w1 ⟨rfl, rfl⟩
  go_wp2_with fail
  go_region_held3 (fun w' => w'.cell? ⟨g, 0, none⟩ = some (.slice (some ⟨gh, 0, none⟩) q.n q.cap) ∧ w'.cell? ⟨g, 1, none⟩ = some (.map (some b)) ∧ w'.cell? ⟨g, 2, none⟩ = some (.slice A q.ws.length c))
    (first | go_keep | exact ⟨y0, y1, y2⟩ | exact ⟨z0, z1, z2⟩ | exact ⟨x0, x1, x2⟩)
    (first
      | (go_at_call 45; refine (hclone_any (by exact H.out.hold) HLN.out h4).mono ?_; rintro e wa ⟨u1, rfl, oa, ba⟩; obtain ⟨A1, k1, rfl, _, _⟩ := Row.shape oa; have bra : Below w.heap.size w wa := ((Below.refl _ _).drew).trans ba; have HBa := Lib.hid bra; have HOa := Lib.hid oa; have y0 := (bra.cell (p := ⟨g, 0, none⟩) hgl).trans c0; have y1 := (bra.cell (p := ⟨g, 1, none⟩) hgl).trans c1; have y2 := (bra.cell (p := ⟨g, 2, none⟩) hgl).trans c2; have HIa := Lib.hid (H.out.below bra); clear oa ba bra)
      | (go_at_call 46; refine (clone_map HIa.out.map).mono ?_; rintro e wb ⟨rfl, mb, bb⟩; have HMb := Lib.hid mb; have HBb := Lib.hid bb; have z0 := (bb.cell (p := ⟨g, 0, none⟩) (HIa.out.blk.lt)).trans y0; have z1 := (bb.cell (p := ⟨g, 1, none⟩) (HIa.out.blk.lt)).trans y1; have z2 := (bb.cell (p := ⟨g, 2, none⟩) (HIa.out.blk.lt)).trans y2; have HIb := Lib.hid (HIa.out.below bb); clear mb bb)
      | (go_at_call 41; refine (iclone_any HIb.out.row hl).mono ?_; rintro e wc ⟨u3, rfl, oc, bc⟩; obtain ⟨A3, k3, rfl, _, _⟩ := Row.shape oc; have x0 := (bc.cell (p := ⟨g, 0, none⟩) (HIb.out.blk.lt)).trans z0; have x1 := (bc.cell (p := ⟨g, 1, none⟩) (HIb.out.blk.lt)).trans z1; have x2 := (bc.cell (p := ⟨g, 2, none⟩) (HIb.out.blk.lt)).trans z2; have HOc := Lib.hid oc; have HBc := Lib.hid bc; clear oc bc))
  all_goals
    go_wp2
    go_ret
    exact copied_end HN.out HLN.out HOa.out HBa.out HMb.out HBb.out HOc.out HBc.out
end Go.Proofs.Ytphahilggfckaaa
