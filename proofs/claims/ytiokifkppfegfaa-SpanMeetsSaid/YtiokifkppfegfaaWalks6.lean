/-
  The walks of the clones and of Copy.
-/
import Derived.Test.YtiokifkppfegfaaWalks5
import Derived.WalkSpells
import Derived.Laws.Externs
import Derived.MapKept
import Derived.Deep.WholeRow
set_option linter.unusedVariables false
set_option linter.unusedSimpArgs false
namespace Go.Proofs.Ytiokifkppfegfaa
open Go.RowKit Mem Qm
set_option maxRecDepth 100000

section
variable {P : Program} (w : World)
theorem eql_map_in (d : Nat) (t k e : TypeId) (p : Option Nat) (h : P.underlying t = some (.map k e)) : (Op.equalIn (d + 1) t (.map p) (.map none)).run P w = .ok p.isNone w := by
  cases p <;> simp [Op.equalIn, run_underlying h]
theorem eql_map_nil (t k e : TypeId) (p : Option Nat) (h : P.underlying t = some (.map k e)) : (binOp .eql t (.map p) (.map none)).run P w = .ok (.bool p.isNone) w := by
  simp only [binOp]
  simp [show Op.equal t (.map p) (.map none) = Op.equalIn (9999 + 1) t (.map p) (.map none) from rfl, eql_map_in w 9999 t k e p h]
theorem assert_map (t xT k e : TypeId) (v : Value) (h : P.underlying t = some (.map k e)) : (Instr.typeAssert (.iface t v) xT t false).run P w = .ok v w := by
  simp [Instr.typeAssert, run_underlying h, go_sem, Result.andThen]
theorem extern_clone {r : Nat} {es : Array MapEntry} {clock : Nat} (t : TypeId) (hb : w.heap[r]? = some (.map es clock)) :
    (Extern.MapsClone.clone #[.iface t (.map (some r))]).run P w = .ok (.iface t (.map (some w.heap.size))) (w.alloc (.map es clock)) := by
  have e : Extern.MapsClone.clone #[.iface t (.map (some r))] = (getObj r >>= fun o => match o with
      | .map entries clock => (newObj (.map entries clock) >>= fun n => pure (.iface t (.map (some n))))
      | _ => stuck "maps.clone: a map expected") := rfl
  rw [e]
  simp [MapKept.run_getObj_map hb, Result.andThen, go_sem]
end
/-- A copy of a map. -/
theorem clone_map {w : World} {b n : Nat} {f : Int → Int} (h : MapI Try.prog w b n f) :
    Calls Try.prog 42 #[.map (some b)] w fun e w' => e = .returned (.map (some w.heap.size)) ∧ MapI Try.prog w' w.heap.size n f ∧ Below w.heap.size w w' := by
  obtain ⟨D, h1, ⟨es, clock, hb, F, hs, hD⟩, h3⟩ := h
  have hq := fun w => eql_map_nil (P := Try.prog) w 62 _ _ (some b) Try.underlying62
  have H := Lib.hid (show MapI Try.prog (w.alloc (.map es clock)) w.heap.size n f from ⟨D, h1, ⟨es, clock, (MapKept.heap_alloc w _).1, F, hs, hD⟩, h3⟩)
  clear h1 F hs hD h3
  go_enter Try.func42, Try.ntmps42
  go_wp2
  rw [run_callFunc_extern Try.func49 (by kernel_rfl) (by kernel_rfl) (by kernel_rfl) (e := Extern.MapsClone.clone) (by kernel_rfl), extern_clone w 62 hb]
  simp only [Result.andThen]
  rw [Oper.upon_value]
  go_wp2
  rw [assert_map _ 62 20 _ _ _ Try.underlying62]
  simp only [Result.andThen]
  rw [Oper.upon_value]
  go_wp2
  go_ret
  exact ⟨rfl, H.out, (Below.refl _ _).alloc (Nat.le_refl _) _⟩
/-- A copy of a row. -/
theorem clone_any {w : World} {B : Nat} {v : Value} {ws : List Life} (h : Row w B 71 3 v ws.length (flat ws)) (hl : ws.length < 1000000) :
    Calls Try.prog 43 #[v] w fun e w' => ∃ u, e = .returned u ∧ Row w' w.heap.size 71 3 u ws.length (flat ws) ∧ Below w.heap.size w w' := by
  rcases h.2 with ⟨rfl, hn⟩ | ⟨g, cap, cur, rfl, hb, hg, hc1, hc2, hc3, hc4⟩
  · obtain rfl := List.eq_nil_of_length_eq_zero hn
    have he := fun W0 : World => Lib.run_eql_slice_nil (P := Try.prog) W0 63 71 none 0 0 0 0 Try.underlying63
    go_enter Try.func43, Try.ntmps43
    go_wp2
    go_ret
    exact ⟨_, rfl, World.ownsRow_nil _ _ _ _, Below.refl _ _⟩
  · obtain ⟨i0, hi0, hz0, hz1, hz2⟩ := info_parts info71
    have hrd := Row.rd h
    obtain ⟨hlen, A', c', hv, _, _, hcell⟩ := hrd
    have H := Lib.hid h
    clear h
    have he := fun W0 : World => Lib.run_eql_slice_nil (P := Try.prog) W0 63 71 (some ⟨g, 0, none⟩) ws.length cap 0 0 Try.underlying63
    go_enter Try.func43, Try.ntmps43
    go_wp2_with (at_builtin; refine wpList_append_own_at _ rfl (.tmp 5) (.tmp 6) 63 rfl w.heap.size 71 i0 _ 3 24 Try.underlying63 hi0 hz0 hz1 hz2 rfl (by decide) (.slice (some ⟨w.heap.size, 0, none⟩) 0 0) 0 [] rfl ?c0 ⟨g, 0, none⟩ ws.length cap (flat ws) rfl (flat_length ws) ?c1 ?c2 ?c3 ?c4 ?c5 ?_)
    case c0 => exact World.ownsRow_made w #[] 0 (Nat.le_refl _) (by simp [maxLen]) (by simp)
    case c1 =>
      intro j u hu
      have hj : j < (flat ws).length := (List.getElem?_eq_some_iff.1 hu).1
      obtain ⟨b', off', hA, hlt, hc⟩ := hcell (by rw [flat_length] at hj; omega)
      injection hA with hA
      injection hA with hA1 hA2
      subst hA1 hA2
      rw [show (⟨g, 0, none⟩ : Addr).add j = ⟨g, 0 + j, none⟩ by unfold Addr.add; split <;> simp_all, World.cell?_alloc_past _ _ _ hlt]
      exact hc j u hu
    case c2 =>
      intro u hu
      simp only [flat, List.mem_flatMap] at hu
      obtain ⟨x, _, hx⟩ := hu
      simp only [lCells, List.mem_cons, List.not_mem_nil, or_false] at hx
      rcases hx with rfl | rfl | rfl <;> rfl
    case c3 => simp only [maxLen]; omega
    case c4 => omega
    case c5 => simp
    intro v1 w1 hown hgr _ _
    try simp only [Nat.zero_add, List.nil_append] at hown
    have hbel : Below w.heap.size w w1 := ((Below.refl _ w).alloc (Nat.le_refl _) _).grown hgr (by simp) (fun k hk => by simp [Value.ownBlock] at hk; omega)
    clear hcell hgr
    go_wp2
    go_ret
    exact ⟨v1, rfl, hown, hbel⟩
/-- A copy of a manager. -/
def Copied (w : World) (q : Q) (e : Ending) (w' : World) : Prop := ∃ g b v, e = .returned (.pointer (some ⟨g, 0, none⟩)) ∧ IsS w' w.heap.size g b v q ∧ Below w.heap.size w w'
/-- A store of all cells of a block that is new. -/
theorem wpList_store_new {P : Program} {ops : Array Oper} {rest : List Oper} {o : Oper} {a : Act} {w : World} {Q : Exit → Act → World → Prop} (hgd : o.guard = none) (ty : TypeId) (x y : Operand) (ho : o.op = .store ty x y)
    (cells : Array Value) (old : Array Value) (t : TypeId) (hx : a.eval x = .pointer (some ⟨w.heap.size, 0, none⟩)) (hy : a.eval y = .agg cells) (hi : (P.info? ty).map (·.size) = some cells.size) (hold : old.size = cells.size) (h1 : cells.all (·.oneCell') = true)
    (h : wpList P ops Q rest (a.put o.dst undef) (w.alloc (.cells cells t))) : wpList P ops Q (o :: rest) a (w.alloc (.cells old t)) :=
  wpList_store_row hgd ty x y ho w.heap.size cells hx hy t old (heap_alloc_new w _) hi hold h1 (by rw [World.setRow_alloc_new]; exact h)
theorem all_at {w : World} {B g b : Nat} {v : Value} {q : Q} (h : IsS w B g b v q) : w.rangeAt g 0 (qCells q (.map (some b)) v) := by
  intro j u hu
  rw [Nat.zero_add]
  exact h.blk.cell j hu
set_option maxHeartbeats 1000000 in
theorem copy_yes {w : World} {B g b : Nat} {v : Value} {q : Q} (h : IsS w B g b v q) (ht : q.ok 0) (hl : q.ws.length < 1000000) :
    Calls Try.prog 26 #[.pointer (some ⟨g, 0, none⟩)] w (Copied w q) := by
  have H := Lib.hid ht
  clear ht
  have hA := Lib.hid (all_at h)
  have hglt := h.blk.lt
  have c26 := h.blk.cell 26 rfl
  have c27 := h.blk.cell 27 rfl
  obtain ⟨A, c, rfl, hc1, hc2⟩ := Row.shape h.row
  have H0 := Lib.hid h
  obtain ⟨CS, hCS⟩ : ∃ CS, qCells q (.map (some b)) (.slice A q.ws.length c) = CS := ⟨_, rfl⟩
  rw [hCS] at hA
  have HCS := Lib.hid hCS
  have hC := Lib.hid (show CS.length = 28 by rw [← hCS]; rfl)
  have hone := Lib.hid (show CS.toArray.all (·.oneCell') = true by rw [← hCS]; simp [qCells, Value.oneCell'])
  clear hCS
  go_enter Try.func26, Try.ntmps26
  go_wp2_with fail
  refine (has_yes h _ H.out).mono ?_
  rintro e w1 ⟨rfl, rfl⟩
  clear h
  go_wp2_with (first
    | (refine wpList_load_mid rfl 65 (.tmp 8) rfl g 0 rfl CS _ hA.out Try.underlying65 rfl (by rw [hC.out]; kernel_rfl) ?_)
    | (refine wpList_store_new rfl 65 (.tmp 3) (.tmp 9) rfl CS.toArray _ 65 rfl rfl (by rw [List.size_toArray, hC.out]; kernel_rfl) (by have h9 := hC.out; simp [h9]) hone.out ?_))
  have bA : Below w.heap.size w (w.alloc (.cells CS.toArray 65)) := (Below.refl _ _).alloc (Nat.le_refl _) _
  have hblk : Blk (w.alloc (.cells CS.toArray 65)) w.heap.size 65 CS := Blk.new w 65 CS
  have hi1 := H0.out.below bA
  have HB1 := Lib.hid hblk
  have HA1 := Lib.hid bA
  clear hblk bA
  refine (clone_map hi1.map).mono ?_
  rintro e w2 ⟨rfl, hm2, b2⟩
  rw [show (w.alloc (.cells CS.toArray 65)).heap.size = w.heap.size + 1 by simp] at hm2
  have hb2 := HB1.out.below b2
  rw [← HCS.out] at hb2
  have e26 := hb2.cell 26 rfl
  have f26 := hb2.free 26
  have hi2 := hi1.below b2
  have c27' := hi2.blk.cell 27 rfl
  have hg2 := hi2.blk.lt
  have hgn : (g == w.heap.size) = false := by simp; omega
  have hgne : g ≠ w.heap.size := by omega
  have s2 : w.heap.size < w2.heap.size := hb2.lt
  have HB2 := Lib.hid hb2
  have HI2 := Lib.hid hi2
  have HM2 := Lib.hid hm2
  have BW2 := Lib.hid (HA1.out.trans (b2.mono (by simp)))
  clear hb2 hi1 hi2 hm2 b2
  go_wp2_with fail
  have kk : Kept w2 (w2.setCell ⟨w.heap.size, 26, none⟩ (.map (some (w.heap.size + 1)))) (fun i => i = w.heap.size) := (Kept.refl w2 (fun i => i = w.heap.size)).setCell (p := ⟨w.heap.size, 26, none⟩) (.inl rfl) _
  have hro := Row.keep HI2.out.row kk (fun i hi e => absurd (H0.out.foot_lt i (.inr (.inr hi))) (by omega))
  have hbs := HB2.out.set 26 (.map (some (w.heap.size + 1)))
  have hms := HM2.out.keep kk (by omega)
  have bw3 := BW2.out.trans (kk.below (B := w.heap.size) (by omega) (by intro i hi; omega))
  have HBS := Lib.hid hbs
  have HMS := Lib.hid hms
  have BW3 := Lib.hid bw3
  have s3 := kk.size
  clear kk hbs hms bw3
  refine (clone_any hro hl).mono ?_
  rintro e w3 ⟨u, rfl, ho, b3⟩
  obtain ⟨A1, k1, rfl, _, _⟩ := Row.shape ho
  have hb3 := HBS.out.below b3
  have e27 := hb3.cell 27 rfl
  have f27 := hb3.free 27
  have HB3 := Lib.hid hb3
  have HM3 := Lib.hid (HMS.out.below b3)
  have HO3 := Lib.hid ho
  have BW4 := Lib.hid (BW3.out.trans (b3.mono (by omega)))
  clear hb3 ho b3 hro
  go_wp2
  go_ret
  have k4 : Kept w3 (w3.setCell ⟨w.heap.size, 27, none⟩ (.slice A1 q.ws.length k1)) (fun i => i = w.heap.size) := (Kept.refl w3 (fun i => i = w.heap.size)).setCell (p := ⟨w.heap.size, 27, none⟩) (.inl rfl) _
  refine ⟨_, w.heap.size + 1, _, rfl, ⟨Nat.le_refl _, by omega, Blk.of (HB3.out.set 27 _) rfl, HM3.out.keep k4 (by omega), Row.mono (Row.keep HO3.out k4 (fun i hi e => Row.ne_blk HO3.out HB3.out (by decide) (e ▸ hi))) (by omega)⟩, BW4.out.setCell (Nat.le_refl _) _⟩
theorem copy_no {w : World} {p : Value} (h : NoT w p 0) :
    Calls Try.prog 26 #[p] w fun e w' => e = .returned (.pointer none) ∧ w = w' := by
  have H := Lib.hid h
  clear h
  go_enter Try.func26, Try.ntmps26
  go_wp2_with (go_at_call 31; refine (has_not H.out).mono ?_; rintro e w' ⟨rfl, rfl⟩)
  go_ret
  exact ⟨rfl, rfl⟩
end Go.Proofs.Ytiokifkppfegfaa
