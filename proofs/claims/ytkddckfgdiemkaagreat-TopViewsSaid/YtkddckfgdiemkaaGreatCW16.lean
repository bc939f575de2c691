/-
  The walk of an execution's copy.
-/
import Derived.Test.YtkddckfgdiemkaaGreatCW14
import Derived.Deep.CutRange
import Derived.Deep.RegionHeldLaw
set_option linter.unusedVariables false
set_option linter.unusedSimpArgs false
namespace Go.Proofs.YtkddckfgdiemkaaGreat
open Go.RowKit Go.Shelf Mem
set_option maxRecDepth 100000

/-- An execution of a call's own. -/
def OwnX (W : World) (B : Nat) (v : Value) (x : Ex) : Prop := ∃ fv dv ov sv, v = .agg #[fv, dv, ov, sv] ∧ Own W B fv x.fr ∧ OwnB W B dv x.dn ∧ OwnL W B ov x.ord ∧ Own W B sv x.fen
theorem OwnX.keep {W W' : World} {S : Nat → Prop} {B : Nat} {v : Value} {x : Ex} (h : OwnX W B v x) (k : Kept W W' S) (hs : ∀ g, B ≤ g → ¬ S g) : OwnX W' B v x := by
  obtain ⟨fv, dv, ov, sv, rfl, h1, h2, h3, h4⟩ := h
  exact ⟨fv, dv, ov, sv, rfl, Row.keep h1 k (fun g hg => hs g (Row.at_lt h1 hg).1), Row.keep h2 k (fun g hg => hs g (Row.at_lt h2 hg).1), h3.keep k hs, Row.keep h4 k (fun g hg => hs g (Row.at_lt h4 hg).1)⟩
theorem OwnX.below {W W' : World} {B : Nat} {v : Value} {x : Ex} (h : OwnX W B v x) (k : Below W.heap.size W W') : OwnX W' B v x := h.keep (Kept.of_below k (fun _ => False)) (fun _ _ => id)
theorem OwnX.mono {W : World} {B B' : Nat} {v : Value} {x : Ex} (h : OwnX W B v x) (hB : B' ≤ B) : OwnX W B' v x := by
  obtain ⟨fv, dv, ov, sv, rfl, h1, h2, h3, h4⟩ := h
  exact ⟨fv, dv, ov, sv, rfl, Row.mono h1 hB, Row.mono h2 hB, h3.mono hB, Row.mono h4 hB⟩
theorem OwnL.shape {W : World} {B : Nat} {v : Value} {x : List (List Int)} (h : OwnL W B v x) : ∃ A c, v = .slice A x.length c ∧ x.length ≤ c ∧ c ≤ 9223372036854775807 := by
  obtain ⟨us, h1, _⟩ := h; exact (Row.rd h1).shape
theorem OwnL.at_ {W : World} {B : Nat} {A : Option Addr} {c : Nat} {x : List (List Int)} (h : OwnL W B (.slice A x.length c) x) {k : Nat} (hk : k < x.length) :
    ∃ b off u, A = some ⟨b, off, none⟩ ∧ b < W.heap.size ∧ W.cell? ⟨b, off + k, none⟩ = some u ∧ Own W B u (x.getD k []) := by
  obtain ⟨us, h1, h2, h3⟩ := h
  obtain ⟨b, off, hA, hb, hc⟩ := (Row.rd h1).one hk
  have hu : us[k]? = some (us[k]'(by omega)) := List.getElem?_eq_getElem _
  exact ⟨b, off, _, hA, hb, hc.trans hu, h3 k _ hu⟩
theorem OwnL.snoc {w w' : World} {B : Nat} {v v' u : Value} {x : List (List Int)} {l : List Int} {us : List Value} (hr : Row w B 28 1 v x.length us) (hl : us.length = x.length) (ha : ∀ k u, us[k]? = some u → Own w B u (x.getD k [])) (hu : Own w B u l)
    (hr' : Row w' B 28 1 v' (x.length + 1) (us ++ [u])) (hk : Kept w w' (fun k => v.ownBlock = some k)) : OwnL w' B v' (x ++ [l]) := by
  have kp : ∀ {u : Value} {l : List Int}, Own w B u l → Own w' B u l := fun h => Row.keep h hk (fun g hg hv => absurd hv (Row.ne_row h hr (by decide) hg))
  refine ⟨us ++ [u], by simpa using hr', by simp [hl], fun k q hq => ?_⟩
  rcases Nat.lt_or_ge k us.length with h | h
  · rw [List.getElem?_append_left h] at hq
    have := kp (ha k q hq)
    rwa [show (x ++ [l]).getD k [] = x.getD k [] by simp only [List.getD]; rw [List.getElem?_append_left (by omega)]]
  · rw [List.getElem?_append_right h] at hq
    have hk0 : k - us.length = 0 := by
      have := (List.getElem?_eq_some_iff.1 hq).1
      simp at this; omega
    rw [hk0] at hq
    simp at hq
    subst hq
    have : (x ++ [l]).getD k [] = l := by
      simp only [List.getD]; rw [List.getElem?_append_right (by omega), show k - x.length = 0 by omega]; rfl
    rw [this]
    exact kp hu
theorem keep4 {w0 w3 : World} {C : Nat} (hb : Below w0.heap.size w0 w3) (hC : w0.heap.size ≤ C) (a b c d : Value) : Below w0.heap.size w0 ((((w3.setCell ⟨C, 0, none⟩ a).setCell ⟨C, 1, none⟩ b).setCell ⟨C, 2, none⟩ c).setCell ⟨C, 3, none⟩ d) :=
  (((hb.setCell (p := ⟨C, 0, none⟩) hC a).setCell (p := ⟨C, 1, none⟩) hC b).setCell (p := ⟨C, 2, none⟩) hC c).setCell (p := ⟨C, 3, none⟩) hC d
theorem set1 {w3 : World} {C B n z j : Nat} {e : TypeId} {v : Value} {xs cs : List Value} (hC : Blk w3 C 35 cs) (he : e ≠ 35) (a : Value) (h : Row w3 B e z v n xs) : Row (w3.setCell ⟨C, j, none⟩ a) B e z v n xs :=
  Row.keep h ((Kept.refl w3 (fun k => k = C)).setCell (p := ⟨C, j, none⟩) (.inl rfl) a) (fun g hg e1 => by subst e1; exact Row.ne_blk h hC he hg)
theorem OwnL.set1 {w3 : World} {C B j : Nat} {v : Value} {x : List (List Int)} {cs : List Value} (hC : Blk w3 C 35 cs) (a : Value) (h : OwnL w3 B v x) : OwnL (w3.setCell ⟨C, j, none⟩ a) B v x := by
  obtain ⟨us, h1, h2, h3⟩ := h
  exact ⟨us, Go.Proofs.YtkddckfgdiemkaaGreat.set1 hC (by decide) a h1, h2, fun k u hu => Go.Proofs.YtkddckfgdiemkaaGreat.set1 hC (by decide) a (h3 k u hu)⟩
theorem keep5 {wr wb w5 : World} {C B B' n z n' z' j : Nat} {e : TypeId} {v v' : Value} {xs xs' cs : List Value} (h : Row wr B e z v n xs) (hb : Below wr.heap.size wr wb) (hr : Row wb B' 28 z' v' n' xs') (hk : Kept wb w5 (fun k => v'.ownBlock = some k)) (hC : Blk w5 C 35 cs) (h1 : e ≠ 28) (h2 : e ≠ 35) (a : Value) :
    Row (w5.setCell ⟨C, j, none⟩ a) B e z v n xs :=
  Go.Proofs.YtkddckfgdiemkaaGreat.set1 hC h2 a (Row.keep (Row.below h hb) hk (fun g hg hv => absurd hv (Row.ne_row (Row.below h hb) hr h1 hg)))
theorem set4 {w3 : World} {C B n z : Nat} {e : TypeId} {v : Value} {xs cs : List Value} (hC : Blk w3 C 35 cs) (he : e ≠ 35) (a b c d : Value) (h : Row w3 B e z v n xs) : Row ((((w3.setCell ⟨C, 0, none⟩ a).setCell ⟨C, 1, none⟩ b).setCell ⟨C, 2, none⟩ c).setCell ⟨C, 3, none⟩ d) B e z v n xs :=
  Row.keep h (((((Kept.refl w3 (fun k => k = C)).setCell (p := ⟨C, 0, none⟩) (.inl rfl) a).setCell (p := ⟨C, 1, none⟩) (.inl rfl) b).setCell (p := ⟨C, 2, none⟩) (.inl rfl) c).setCell (p := ⟨C, 3, none⟩) (.inl rfl) d) (fun g hg e1 => by subst e1; exact Row.ne_blk h hC he hg)
set_option maxHeartbeats 4000000 in
theorem copy_any {w : World} {B : Nat} {v : Value} {x : Ex} (h : OwnX w B v x) (hfl : x.fr.length < 100000) (hdl : x.dn.length < 100000) (hsl : x.fen.length < 100000) (hol : x.ord.length < 100000) (hll : ∀ k, (x.ord.getD k []).length < 100000) :
    Calls Tryz.prog 43 #[v] w fun e w' => ∃ u, e = .returned u ∧ OwnX w' w.heap.size u x ∧ Below w.heap.size w w' := by
  obtain ⟨fv, dv, ov, sv, rfl, h1, h2, h3, h4⟩ := h
  obtain ⟨Ao, co, rfl, hco1, hco2⟩ := h3.shape
  obtain ⟨w0, hw0⟩ : ∃ w0, (w.alloc (.cells #[fv, dv, .slice Ao x.ord.length co, sv] 35)).alloc (.cells #[.slice none 0 0, .slice none 0 0, .slice none 0 0, .slice none 0 0] 35) = w0 := ⟨_, rfl⟩
  have b0 : Below w.heap.size w w0 := by rw [← hw0]; exact ((Below.refl _ w).alloc (Nat.le_refl _) _).alloc (by simp) _
  have X0 : Hid (Blk w0 w.heap.size 35 [fv, dv, .slice Ao x.ord.length co, sv]) := Lib.hid (by rw [← hw0]; exact (Blk.new w 35 [fv, dv, .slice Ao x.ord.length co, sv]).alloc _)
  have X1 : Hid (Blk w0 (w.heap.size + 1) 35 [.slice none 0 0, .slice none 0 0, .slice none 0 0, .slice none 0 0]) := Lib.hid (by rw [← hw0]; exact blk_at_new 35 [.slice none 0 0, .slice none 0 0, .slice none 0 0, .slice none 0 0] (by simp))
  have hwl : w0.heap.size = w.heap.size + 2 := by rw [← hw0]; simp
  have HWL := Lib.hid hwl
  have F1 := Lib.hid (Row.below h1 b0)
  have F2 := Lib.hid (Row.below h2 b0)
  have F3 := Lib.hid (h3.below b0)
  have F4 := Lib.hid (Row.below h4 b0)
  have HW0 := Lib.hid hw0
  have B0 := Lib.hid b0
  have hc4 : ∀ W1, Below w0.heap.size w0 W1 → W1.cell? ⟨w.heap.size, 0, none⟩ = some fv ∧ W1.cell? ⟨w.heap.size, 1, none⟩ = some dv ∧ W1.cell? ⟨w.heap.size, 2, none⟩ = some (.slice Ao x.ord.length co) ∧ W1.cell? ⟨w.heap.size, 3, none⟩ = some sv := fun W1 h1 =>
    ⟨(X0.out.below h1).cell 0 rfl, (X0.out.below h1).cell 1 rfl, (X0.out.below h1).cell 2 rfl, (X0.out.below h1).cell 3 rfl⟩
  have C4 := Lib.hid hc4
  have hwl' : w.heap.size < w0.heap.size := by omega
  have hd0 : Below w0.heap.size w0 w0.drew := (Below.refl _ w0).drew
  have hda : Below w0.heap.size w0 (w0.alloc (.cells #[.slice none 0 0, .slice none 0 0, .slice none 0 0, .slice none 0 0] 35)).drew := ((Below.refl _ w0).alloc (Nat.le_refl _) _).drew
  have C4k : Hid (∀ W1, Below w0.heap.size w0 W1 → W1.cell? ⟨w.heap.size, 0, none⟩ = some fv ∧ W1.cell? ⟨w.heap.size, 1, none⟩ = some dv ∧ W1.cell? ⟨w.heap.size, 3, none⟩ = some sv) := Lib.hid (fun W1 h => ⟨(hc4 W1 h).1, (hc4 W1 h).2.1, (hc4 W1 h).2.2.2⟩)
  clear h1 h2 h3 h4 hw0 b0 hc4 hwl
  go_enter Tryz.func43, Tryz.ntmps43
  go_upto_region 1 with fail
  rw [HW0.out]
  go_cut [3] from 6 to 15 (fun c wr => ∃ C u1 u2 u3, c = .pointer (some ⟨C, 0, none⟩) ∧ Blk wr C 35 [u1, u2, .slice none 0 0, u3] ∧ Own wr w0.heap.size u1 x.fr ∧ OwnB wr w0.heap.size u2 x.dn ∧ Own wr w0.heap.size u3 x.fen ∧ w0.heap.size ≤ C ∧ Below w0.heap.size w0 wr)
  case first =>
    go_region_held3? (fun w' => w'.cell? ⟨w.heap.size, 0, none⟩ = some fv ∧ w'.cell? ⟨w.heap.size, 1, none⟩ = some dv ∧ w'.cell? ⟨w.heap.size, 3, none⟩ = some sv)
      (first | (with_reducible exact C4k.out _ hd0) | (with_reducible exact C4k.out _ hda) | (with_reducible exact C4k.out _ hbC) | (with_reducible exact C4k.out _ hbB) | (with_reducible exact C4k.out _ hbA) | (with_reducible exact C4k.out _ (Below.alloc hbC (Below.size hbC) _)) | (with_reducible exact C4k.out _ (Below.alloc hbB (Below.size hbB) _)) | (with_reducible exact C4k.out _ (Below.alloc hbA (Below.size hbA) _)) | (with_reducible exact C4k.out _ (Below.alloc hd0 (Below.size hd0) _)) | (with_reducible exact C4k.out _ (keep4 hbC hCl _ _ _ _)) | (with_reducible exact C4k.out _ (keep4 (Below.alloc hbC (Below.size hbC) _) (Below.size hbC) _ _ _ _)))
      (first
        | (go_at_call 81; (with_reducible refine (bclone_any (Row.below F2.out hbA) (by omega)).mono ?_); rintro e w2 ⟨u2, rfl, o2, hb2⟩; obtain ⟨A2, c2, rfl, hca2, hcb2⟩ := (Row.rd o2).shape; have hbB : Below w0.heap.size w0 w2 := (hbA).trans (hb2.mono (Below.size hbA)); (try have hC := Blk.below hC hb2); have o1 := Row.below o1 hb2; dsimp only)
        | (go_at_call 81; (with_reducible refine (bclone_any (Row.below F2.out (Below.alloc hbA (Below.size hbA) _)) (by omega)).mono ?_); rintro e w2 ⟨u2, rfl, o2, hb2⟩; obtain ⟨A2, c2, rfl, hca2, hcb2⟩ := (Row.rd o2).shape; have hbB : Below w0.heap.size w0 w2 := ((Below.alloc hbA (Below.size hbA) _)).trans (hb2.mono (Below.size (Below.alloc hbA (Below.size hbA) _))); have hC : Blk w2 w1.heap.size 35 [.slice none 0 0, .slice none 0 0, .slice none 0 0, .slice none 0 0] := (Blk.new w1 35 [.slice none 0 0, .slice none 0 0, .slice none 0 0, .slice none 0 0]).below hb2; have hCl : w0.heap.size ≤ w1.heap.size := Below.size hbA; have o1 := Row.below (World.ownsRow.alloc o1 _) hb2; dsimp only)
        | (go_at_call 66; (with_reducible refine (iclone_any (Row.below F4.out hbB) (by omega)).mono ?_); rintro e w3 ⟨u3, rfl, o3, hb3⟩; obtain ⟨A3, c3, rfl, hca3, hcb3⟩ := (Row.rd o3).shape; have hbC : Below w0.heap.size w0 w3 := (hbB).trans (hb3.mono (Below.size hbB)); (try have hC := Blk.below hC hb3); (try (have q0 := Blk.cell hC 0 rfl; have q1 := Blk.cell hC 1 rfl; have q2 := Blk.cell hC 2 rfl; have q3 := Blk.cell hC 3 rfl; have f0 := Blk.free hC 0; have f1 := Blk.free hC 1; have f2 := Blk.free hC 2; have f3 := Blk.free hC 3; have hCt := Blk.lt hC)); have o1 := Row.below o1 hb3; have o2 := Row.below o2 hb3; dsimp only)
        | (go_at_call 66; (with_reducible refine (iclone_any (Row.below F4.out (Below.alloc hbB (Below.size hbB) _)) (by omega)).mono ?_); rintro e w3 ⟨u3, rfl, o3, hb3⟩; obtain ⟨A3, c3, rfl, hca3, hcb3⟩ := (Row.rd o3).shape; have hbC : Below w0.heap.size w0 w3 := ((Below.alloc hbB (Below.size hbB) _)).trans (hb3.mono (Below.size (Below.alloc hbB (Below.size hbB) _))); have hC : Blk w3 w2.heap.size 35 [.slice none 0 0, .slice none 0 0, .slice none 0 0, .slice none 0 0] := (Blk.new w2 35 [.slice none 0 0, .slice none 0 0, .slice none 0 0, .slice none 0 0]).below hb3; have hCl : w0.heap.size ≤ w2.heap.size := Below.size hbB; (try (have q0 := Blk.cell hC 0 rfl; have q1 := Blk.cell hC 1 rfl; have q2 := Blk.cell hC 2 rfl; have q3 := Blk.cell hC 3 rfl; have f0 := Blk.free hC 0; have f1 := Blk.free hC 1; have f2 := Blk.free hC 2; have f3 := Blk.free hC 3; have hCt := Blk.lt hC)); have o1 := Row.below (World.ownsRow.alloc o1 _) hb3; have o2 := Row.below (World.ownsRow.alloc o2 _) hb3; dsimp only)
        | (go_at_call 66; (with_reducible refine (iclone_any (Row.below F1.out hd0) (by omega)).mono ?_); rintro e w1 ⟨u1, rfl, o1, hb1⟩; obtain ⟨A1, c1, rfl, hca1, hcb1⟩ := (Row.rd o1).shape; have hbA : Below w0.heap.size w0 w1 := (hd0).trans (hb1.mono (Below.size hd0)); (try have hC := Blk.below hC hb1); dsimp only)
        | (go_at_call 66; (with_reducible refine (iclone_any (Row.below F1.out hda) (by omega)).mono ?_); rintro e w1 ⟨u1, rfl, o1, hb1⟩; obtain ⟨A1, c1, rfl, hca1, hcb1⟩ := (Row.rd o1).shape; have hbA : Below w0.heap.size w0 w1 := hda.trans (hb1.mono (Below.size hda)); have hC : Blk w1 w0.heap.size 35 [.slice none 0 0, .slice none 0 0, .slice none 0 0, .slice none 0 0] := (blk_drew (Blk.new w0 35 [.slice none 0 0, .slice none 0 0, .slice none 0 0, .slice none 0 0])).below hb1; have hCl : w0.heap.size ≤ w0.heap.size := Nat.le_refl _; dsimp only))
    all_goals go_wp2_with fail
    all_goals go_meet
    · exact ⟨_, _, _, _, rfl, Blk.new w3 35 _, Row.mono (World.ownsRow.alloc o1 _) (Nat.le_refl _), Row.mono (World.ownsRow.alloc o2 _) (Below.size hbA), Row.mono (World.ownsRow.alloc o3 _) (Below.size hbB), Below.size hbC, hbC.alloc (Below.size hbC) _⟩
    all_goals exact ⟨_, _, _, _, rfl, (((hC.set 0 _).set 1 _).set 2 _).set 3 _, set4 hC (by decide) _ _ _ _ (Row.mono o1 (by simp)), set4 hC (by decide) _ _ _ _ (Row.mono o2 (by first | exact Below.size hbA | (have := Below.size hbA; simp; omega))), set4 hC (by decide) _ _ _ _ (Row.mono o3 (by first | exact Below.size hbB | (have := Below.size hbB; simp; omega))), hCl, keep4 hbC hCl _ _ _ _⟩
  case rest =>
    obtain ⟨C, u1, u2, u3, rfl, hC, o1, o2, o3, hCl, hb⟩ := hcut
    obtain ⟨k0, k1, k2, k3⟩ := C4.out wc hb
    have hCt := hC.lt
    have HCL := Lib.hid hCl
    have Z : Hid (∃ vo, Blk wc C 35 [u1, u2, vo, u3] ∧ OwnL wc w0.heap.size vo (x.ord.take 0) ∧ Own wc w0.heap.size u1 x.fr ∧ OwnB wc w0.heap.size u2 x.dn ∧ Own wc w0.heap.size u3 x.fen ∧ Below w0.heap.size w0 wc) := Lib.hid ⟨_, hC, by rw [List.take_zero]; exact OwnL.nil _ _, o1, o2, o3, hb⟩
    clear hC o1 o2 o3 hb
    go_wp2
    go_loopw [19] (fun i wr => ∃ m : Nat, m ≤ x.ord.length ∧ i = .int .i64 m ∧ ∃ vo, Blk wr C 35 [u1, u2, vo, u3] ∧ OwnL wr w0.heap.size vo (x.ord.take m) ∧ Own wr w0.heap.size u1 x.fr ∧ OwnB wr w0.heap.size u2 x.dn ∧ Own wr w0.heap.size u3 x.fen ∧ Below w0.heap.size w0 wr) (fun i _ => x.ord.length - (intOf i).toNat)
    case atStart => exact ⟨0, Nat.zero_le _, rfl, Z.out⟩
    case round =>
      obtain ⟨m, hm, rfl, vo, hC, hvo, o1, o2, o3, hb⟩ := hrel
      by_cases hlt : m < x.ord.length
      · have hlt' : (m : Int) < (x.ord.length : Int) := by omega
        have m1 : (0 : Int) ≤ (m : Int) := by omega
        obtain ⟨b, off, u, hA, hbb, hcell, hu⟩ := (F3.out.below hb).at_ hlt
        obtain ⟨us, r1, r2, r3⟩ := hvo
        obtain ⟨Av, cv, rfl, hcv1, hcv2⟩ := (Row.rd r1).shape
        obtain ⟨Au, cu, rfl, hcu1, hcu2⟩ := (Row.rd hu).shape
        subst hA
        have hlm := hll m
        have htk : Hid (x.ord.take (m + 1) = x.ord.take m ++ [x.ord.getD m []]) := Lib.hid (by rw [List.take_add_one, List.getElem?_eq_getElem hlt, List.getD, List.getElem?_eq_getElem hlt]; rfl)
        have htl : (x.ord.take m).length = m := by simp; omega
        obtain ⟨l, hl⟩ : ∃ l, x.ord.getD m [] = l := ⟨_, rfl⟩
        rw [hl] at hu hcu1 hlm htk hcell
        obtain ⟨xt, hxt⟩ : ∃ xt, x.ord.take m = xt := ⟨_, rfl⟩
        rw [hxt] at htl r1 r2 r3 hcv1 htk hC
        have cC := hC.cell 2 rfl
        have fC := hC.free 2
        have hCr := hC.lt
        have bd : Below wr.heap.size wr wr.drew := (Below.refl _ wr).drew
        have HU := Lib.hid hu
        have HCC := Lib.hid hC
        have R1 := Lib.hid r1
        have R2 := Lib.hid r2
        have R3 := Lib.hid r3
        have O1 := Lib.hid o1
        have O2 := Lib.hid o2
        have O3 := Lib.hid o3
        have HB := Lib.hid hb
        have hclone : Hid (Calls Tryz.prog 66 #[.slice Au l.length cu] wr.drew (Made l wr.drew)) := Lib.hid (iclone_any (Row.below hu bd) (by omega))
        have HTL := Lib.hid htl
        have htl2 : xt.length < 100000 := by omega
        clear hu hC r1 r2 r3 o1 o2 o3 hl hxt htl
        go_upto_region 5 with fail
        refine wp_region_any (by kernel_rfl) ?_
        (try (change wpAny _ _ _ _ _ _ _ (World.drew _)))
        refine wpAny_take (i := 0) (v := ?_) rfl (by kernel_rfl) (by kernel_rfl) (by kernel_rfl) (fun _ _ _ h => h) (Or.inl ⟨by rfl, ?_⟩) ?_
        rotate_left
        · intro w; go_simp; with_reducible rfl
        refine wpAny_take (i := 2) (v := ?_) rfl (by kernel_rfl) (by kernel_rfl) (by kernel_rfl) (fun _ _ _ h => h) (Or.inl ⟨by rfl, ?_⟩) ?_
        rotate_left
        · intro w; go_simp; with_reducible rfl
        refine wpAny_ready (rs := [1, 3]) (by kernel_rfl) (by simp) ?_
        refine AllReady.cons rfl (fun K hK => ?_) ?_
        · go_simp
          refine hK _ _ ?_
          clear hK K
          refine wpAny_ready (rs := [3]) (by kernel_rfl) (by simp) ?_
          refine AllReady.cons rfl (fun K hK => ?_) ?_
          · go_simp
            (with_reducible refine hclone.out.mono ?_); rintro e w4 ⟨u4, rfl, own4, hb4⟩; obtain ⟨A4, c4, rfl, hca4, hcb4⟩ := (Row.rd own4).shape; have hCw4 : C < w4.heap.size := Nat.lt_of_lt_of_le hCr hb4.size; have cC4 := (HCC.out.below (bd.trans hb4)).cell 2 rfl; dsimp only
            refine hK _ _ ?_
            clear hK K
            refine wpAny_ready (rs := [4]) (by kernel_rfl) (by simp) ?_
            refine AllReady.cons rfl (fun K hK => ?_) ?_
            · go_simp
              refine hK _ _ ?_
              clear hK K
              refine wpAny_ready (rs := [5]) (by kernel_rfl) (by simp) ?_
              refine AllReady.cons rfl (fun K hK => ?_) ?_
              · refine step_app (ty := 33) (e := 28) (z := .slice none 0 0) (k := 1) (b := 24) rfl _ _ rfl Tryz.underlying33 info28 rfl (by decide) (by decide) w0.heap.size _ xt.length us w4.heap.size [.slice A4 l.length c4] rfl (Row.below R1.out ((bd.trans hb4).alloc (by first | exact hb4.size | (have := hb4.size; simpa using this)) _)) rfl (Blk.new w4 28 _) rfl (by intro u hu; simp at hu; subst hu; rfl) (by have := HB.out.size; have := hb4.size; simp at *; omega) (by omega) ?_; intro v5 w5 row5 k5 at5; obtain ⟨A5, c5, rfl, hca5, hcb5⟩ := (Row.rd row5).shape; have hC5 : Blk w5 C 35 [u1, u2, .slice Av xt.length cv, u3] := (HCC.out.below ((bd.trans hb4).alloc (by first | exact hb4.size | (have := hb4.size; simpa using this)) _)).keep k5 (fun e => Row.ne_blk R1.out HCC.out (by decide) e); have cC5 := hC5.cell 2 rfl; have fC5 := hC5.free 2; have hCl5 := hC5.lt
                refine hK _ _ ?_
                clear hK K
                refine wpAny_take (i := 6) (v := ?_) rfl (by kernel_rfl) (by kernel_rfl) (by kernel_rfl) (fun _ _ _ h => h) (Or.inl ⟨by rfl, ?_⟩) ?_
                rotate_left
                · intro w; go_simp; with_reducible rfl
                refine wpAny_ready (rs := [7]) (by kernel_rfl) (by simp) ?_
                refine AllReady.cons rfl (fun K hK => ?_) ?_
                · go_simp
                  refine hK _ _ ?_
                  clear hK K
                  refine wpAny_done (by kernel_rfl) ?_ _
                  have hbA4 : Below wr.heap.size wr (w4.alloc (.cells #[.slice A4 l.length c4] 28)) := (bd.trans hb4).alloc (by first | exact hb4.size | (have := hb4.size; simpa using this)) _
                  have hR4 := Row.below R1.out hbA4
                  have hfin : Hid (∃ vo, Blk (w5.setCell ⟨C, 2, none⟩ (.slice A5 (xt.length + 1) c5)) C 35 [u1, u2, vo, u3] ∧ OwnL (w5.setCell ⟨C, 2, none⟩ (.slice A5 (xt.length + 1) c5)) w0.heap.size vo (x.ord.take (m + 1)) ∧ Own (w5.setCell ⟨C, 2, none⟩ (.slice A5 (xt.length + 1) c5)) w0.heap.size u1 x.fr ∧ OwnB (w5.setCell ⟨C, 2, none⟩ (.slice A5 (xt.length + 1) c5)) w0.heap.size u2 x.dn ∧ Own (w5.setCell ⟨C, 2, none⟩ (.slice A5 (xt.length + 1) c5)) w0.heap.size u3 x.fen ∧ Below w0.heap.size w0 (w5.setCell ⟨C, 2, none⟩ (.slice A5 (xt.length + 1) c5))) := Lib.hid (by
                    refine ⟨_, hC5.set 2 _, ?_, keep5 O1.out hbA4 hR4 k5 hC5 (by decide) (by decide) _, keep5 O2.out hbA4 hR4 k5 hC5 (by decide) (by decide) _, keep5 O3.out hbA4 hR4 k5 hC5 (by decide) (by decide) _, ?_⟩
                    · rw [htk.out]
                      refine OwnL.set1 hC5 _ (OwnL.snoc hR4 R2.out (fun k u hu => Row.below (R3.out k u hu) hbA4) (World.ownsRow.alloc (Row.mono own4 ?_) _) row5 k5)
                      have := HB.out.size; simpa using this
                    · exact ((HB.out.trans (hbA4.mono HB.out.size)).trans (k5.below (Nat.le_trans HB.out.size hbA4.size) (fun k e => (Row.at_lt hR4 e).1))).setCell (p := ⟨C, 2, none⟩) HCL.out _)
                  clear own4 hb4 row5 k5 at5 hC5 hbA4 hR4 cC4 cC5 fC5
                  go_wp2
                  go_roundw
                  case measure => simp [intOf]; all_goals omega
                  case rel => exact ⟨m + 1, by omega, by go_num, hfin.out⟩
                exact AllReady.nil
              exact AllReady.nil
            exact AllReady.nil
          exact AllReady.nil
        refine AllReady.cons rfl (fun K hK => ?_) ?_
        · go_simp
          (with_reducible refine hclone.out.mono ?_); rintro e w4 ⟨u4, rfl, own4, hb4⟩; obtain ⟨A4, c4, rfl, hca4, hcb4⟩ := (Row.rd own4).shape; have hCw4 : C < w4.heap.size := Nat.lt_of_lt_of_le hCr hb4.size; have cC4 := (HCC.out.below (bd.trans hb4)).cell 2 rfl; dsimp only
          refine hK _ _ ?_
          clear hK K
          refine wpAny_ready (rs := [1, 4]) (by kernel_rfl) (by simp) ?_
          refine AllReady.cons rfl (fun K hK => ?_) ?_
          · go_simp
            refine hK _ _ ?_
            clear hK K
            refine wpAny_ready (rs := [4]) (by kernel_rfl) (by simp) ?_
            refine AllReady.cons rfl (fun K hK => ?_) ?_
            · go_simp
              refine hK _ _ ?_
              clear hK K
              refine wpAny_ready (rs := [5]) (by kernel_rfl) (by simp) ?_
              refine AllReady.cons rfl (fun K hK => ?_) ?_
              · refine step_app (ty := 33) (e := 28) (z := .slice none 0 0) (k := 1) (b := 24) rfl _ _ rfl Tryz.underlying33 info28 rfl (by decide) (by decide) w0.heap.size _ xt.length us w4.heap.size [.slice A4 l.length c4] rfl (Row.below R1.out ((bd.trans hb4).alloc (by first | exact hb4.size | (have := hb4.size; simpa using this)) _)) rfl (Blk.new w4 28 _) rfl (by intro u hu; simp at hu; subst hu; rfl) (by have := HB.out.size; have := hb4.size; simp at *; omega) (by omega) ?_; intro v5 w5 row5 k5 at5; obtain ⟨A5, c5, rfl, hca5, hcb5⟩ := (Row.rd row5).shape; have hC5 : Blk w5 C 35 [u1, u2, .slice Av xt.length cv, u3] := (HCC.out.below ((bd.trans hb4).alloc (by first | exact hb4.size | (have := hb4.size; simpa using this)) _)).keep k5 (fun e => Row.ne_blk R1.out HCC.out (by decide) e); have cC5 := hC5.cell 2 rfl; have fC5 := hC5.free 2; have hCl5 := hC5.lt
                refine hK _ _ ?_
                clear hK K
                refine wpAny_take (i := 6) (v := ?_) rfl (by kernel_rfl) (by kernel_rfl) (by kernel_rfl) (fun _ _ _ h => h) (Or.inl ⟨by rfl, ?_⟩) ?_
                rotate_left
                · intro w; go_simp; with_reducible rfl
                refine wpAny_ready (rs := [7]) (by kernel_rfl) (by simp) ?_
                refine AllReady.cons rfl (fun K hK => ?_) ?_
                · go_simp
                  refine hK _ _ ?_
                  clear hK K
                  refine wpAny_done (by kernel_rfl) ?_ _
                  have hbA4 : Below wr.heap.size wr (w4.alloc (.cells #[.slice A4 l.length c4] 28)) := (bd.trans hb4).alloc (by first | exact hb4.size | (have := hb4.size; simpa using this)) _
                  have hR4 := Row.below R1.out hbA4
                  have hfin : Hid (∃ vo, Blk (w5.setCell ⟨C, 2, none⟩ (.slice A5 (xt.length + 1) c5)) C 35 [u1, u2, vo, u3] ∧ OwnL (w5.setCell ⟨C, 2, none⟩ (.slice A5 (xt.length + 1) c5)) w0.heap.size vo (x.ord.take (m + 1)) ∧ Own (w5.setCell ⟨C, 2, none⟩ (.slice A5 (xt.length + 1) c5)) w0.heap.size u1 x.fr ∧ OwnB (w5.setCell ⟨C, 2, none⟩ (.slice A5 (xt.length + 1) c5)) w0.heap.size u2 x.dn ∧ Own (w5.setCell ⟨C, 2, none⟩ (.slice A5 (xt.length + 1) c5)) w0.heap.size u3 x.fen ∧ Below w0.heap.size w0 (w5.setCell ⟨C, 2, none⟩ (.slice A5 (xt.length + 1) c5))) := Lib.hid (by
                    refine ⟨_, hC5.set 2 _, ?_, keep5 O1.out hbA4 hR4 k5 hC5 (by decide) (by decide) _, keep5 O2.out hbA4 hR4 k5 hC5 (by decide) (by decide) _, keep5 O3.out hbA4 hR4 k5 hC5 (by decide) (by decide) _, ?_⟩
                    · rw [htk.out]
                      refine OwnL.set1 hC5 _ (OwnL.snoc hR4 R2.out (fun k u hu => Row.below (R3.out k u hu) hbA4) (World.ownsRow.alloc (Row.mono own4 ?_) _) row5 k5)
                      have := HB.out.size; simpa using this
                    · exact ((HB.out.trans (hbA4.mono HB.out.size)).trans (k5.below (Nat.le_trans HB.out.size hbA4.size) (fun k e => (Row.at_lt hR4 e).1))).setCell (p := ⟨C, 2, none⟩) HCL.out _)
                  clear own4 hb4 row5 k5 at5 hC5 hbA4 hR4 cC4 cC5 fC5
                  go_wp2
                  go_roundw
                  case measure => simp [intOf]; all_goals omega
                  case rel => exact ⟨m + 1, by omega, by go_num, hfin.out⟩
                exact AllReady.nil
              exact AllReady.nil
            exact AllReady.nil
          refine AllReady.cons rfl (fun K hK => ?_) ?_
          · go_simp
            refine hK _ _ ?_
            clear hK K
            refine wpAny_ready (rs := [1]) (by kernel_rfl) (by simp) ?_
            refine AllReady.cons rfl (fun K hK => ?_) ?_
            · go_simp
              refine hK _ _ ?_
              clear hK K
              refine wpAny_ready (rs := [5]) (by kernel_rfl) (by simp) ?_
              refine AllReady.cons rfl (fun K hK => ?_) ?_
              · refine step_app (ty := 33) (e := 28) (z := .slice none 0 0) (k := 1) (b := 24) rfl _ _ rfl Tryz.underlying33 info28 rfl (by decide) (by decide) w0.heap.size _ xt.length us w4.heap.size [.slice A4 l.length c4] rfl (Row.below R1.out ((bd.trans hb4).alloc (by first | exact hb4.size | (have := hb4.size; simpa using this)) _)) rfl (Blk.new w4 28 _) rfl (by intro u hu; simp at hu; subst hu; rfl) (by have := HB.out.size; have := hb4.size; simp at *; omega) (by omega) ?_; intro v5 w5 row5 k5 at5; obtain ⟨A5, c5, rfl, hca5, hcb5⟩ := (Row.rd row5).shape; have hC5 : Blk w5 C 35 [u1, u2, .slice Av xt.length cv, u3] := (HCC.out.below ((bd.trans hb4).alloc (by first | exact hb4.size | (have := hb4.size; simpa using this)) _)).keep k5 (fun e => Row.ne_blk R1.out HCC.out (by decide) e); have cC5 := hC5.cell 2 rfl; have fC5 := hC5.free 2; have hCl5 := hC5.lt
                refine hK _ _ ?_
                clear hK K
                refine wpAny_take (i := 6) (v := ?_) rfl (by kernel_rfl) (by kernel_rfl) (by kernel_rfl) (fun _ _ _ h => h) (Or.inl ⟨by rfl, ?_⟩) ?_
                rotate_left
                · intro w; go_simp; with_reducible rfl
                refine wpAny_ready (rs := [7]) (by kernel_rfl) (by simp) ?_
                refine AllReady.cons rfl (fun K hK => ?_) ?_
                · go_simp
                  refine hK _ _ ?_
                  clear hK K
                  refine wpAny_done (by kernel_rfl) ?_ _
                  have hbA4 : Below wr.heap.size wr (w4.alloc (.cells #[.slice A4 l.length c4] 28)) := (bd.trans hb4).alloc (by first | exact hb4.size | (have := hb4.size; simpa using this)) _
                  have hR4 := Row.below R1.out hbA4
                  have hfin : Hid (∃ vo, Blk (w5.setCell ⟨C, 2, none⟩ (.slice A5 (xt.length + 1) c5)) C 35 [u1, u2, vo, u3] ∧ OwnL (w5.setCell ⟨C, 2, none⟩ (.slice A5 (xt.length + 1) c5)) w0.heap.size vo (x.ord.take (m + 1)) ∧ Own (w5.setCell ⟨C, 2, none⟩ (.slice A5 (xt.length + 1) c5)) w0.heap.size u1 x.fr ∧ OwnB (w5.setCell ⟨C, 2, none⟩ (.slice A5 (xt.length + 1) c5)) w0.heap.size u2 x.dn ∧ Own (w5.setCell ⟨C, 2, none⟩ (.slice A5 (xt.length + 1) c5)) w0.heap.size u3 x.fen ∧ Below w0.heap.size w0 (w5.setCell ⟨C, 2, none⟩ (.slice A5 (xt.length + 1) c5))) := Lib.hid (by
                    refine ⟨_, hC5.set 2 _, ?_, keep5 O1.out hbA4 hR4 k5 hC5 (by decide) (by decide) _, keep5 O2.out hbA4 hR4 k5 hC5 (by decide) (by decide) _, keep5 O3.out hbA4 hR4 k5 hC5 (by decide) (by decide) _, ?_⟩
                    · rw [htk.out]
                      refine OwnL.set1 hC5 _ (OwnL.snoc hR4 R2.out (fun k u hu => Row.below (R3.out k u hu) hbA4) (World.ownsRow.alloc (Row.mono own4 ?_) _) row5 k5)
                      have := HB.out.size; simpa using this
                    · exact ((HB.out.trans (hbA4.mono HB.out.size)).trans (k5.below (Nat.le_trans HB.out.size hbA4.size) (fun k e => (Row.at_lt hR4 e).1))).setCell (p := ⟨C, 2, none⟩) HCL.out _)
                  clear own4 hb4 row5 k5 at5 hC5 hbA4 hR4 cC4 cC5 fC5
                  go_wp2
                  go_roundw
                  case measure => simp [intOf]; all_goals omega
                  case rel => exact ⟨m + 1, by omega, by go_num, hfin.out⟩
                exact AllReady.nil
              exact AllReady.nil
            exact AllReady.nil
          exact AllReady.nil
        exact AllReady.nil
      · have hmn : m = x.ord.length := by omega
        have c0 := hC.cell 0 rfl
        have c1 := hC.cell 1 rfl
        have c2 := hC.cell 2 rfl
        have c3 := hC.cell 3 rfl
        have y0 := (X1.out.below hb).cell 0 rfl
        have y1 := (X1.out.below hb).cell 1 rfl
        have y2 := (X1.out.below hb).cell 2 rfl
        have y3 := (X1.out.below hb).cell 3 rfl
        have f0 := (X1.out.below hb).free 0
        have f1 := (X1.out.below hb).free 1
        have f2 := (X1.out.below hb).free 2
        have f3 := (X1.out.below hb).free 3
        have hxl := (X1.out.below hb).lt
        obtain ⟨A1, c1', rfl, _, _⟩ := (Row.rd o1).shape
        obtain ⟨A2, c2', rfl, _, _⟩ := (Row.rd o2).shape
        obtain ⟨A3, c3', rfl, _, _⟩ := (Row.rd o3).shape
        obtain ⟨A4, c4', rfl, _, _⟩ := hvo.shape
        have HH := Lib.hid (And.intro o1 (And.intro o2 (And.intro o3 (And.intro hvo (And.intro hb hmn)))))
        have HX := Lib.hid (X1.out.below hb)
        clear o1 o2 o3 hvo hb hmn hC
        go_wp2
        obtain ⟨o1, o2, o3, hvo, hb, hmn⟩ := HH.out
        have hXX : Blk ((((wr.setCell ⟨w.heap.size + 1, 0, none⟩ (.slice A1 x.fr.length c1')).setCell ⟨w.heap.size + 1, 1, none⟩ (.slice A2 x.dn.length c2')).setCell ⟨w.heap.size + 1, 2, none⟩ (.slice A4 m c4')).setCell ⟨w.heap.size + 1, 3, none⟩ (.slice A3 x.fen.length c3')) (w.heap.size + 1) 35 [.slice A1 x.fr.length c1', .slice A2 x.dn.length c2', .slice A4 m c4', .slice A3 x.fen.length c3'] := (((HX.out.set 0 _).set 1 _).set 2 _).set 3 _
        refine bodyPost_ret (results_cell_row rfl _ _ (w.heap.size + 1) 35 _ (0, 0) _ rfl hXX Tryz.underlying35 rfl (by kernel_rfl)) rfl ?_
        have hml : (x.ord.take m).length = m := by simp; omega
        rw [hml] at hvo
        refine ⟨_, rfl, ⟨_, _, _, _, rfl, set4 HX.out (by decide) _ _ _ _ (Row.mono o1 B0.out.size), set4 HX.out (by decide) _ _ _ _ (Row.mono o2 B0.out.size), ?_, set4 HX.out (by decide) _ _ _ _ (Row.mono o3 B0.out.size)⟩, ?_⟩
        · have h := OwnL.set1 HX.out (j := 0) (.slice A1 x.fr.length c1') (hvo.mono B0.out.size)
          have h := OwnL.set1 (HX.out.set 0 _) (j := 1) (.slice A2 x.dn.length c2') h
          have h := OwnL.set1 ((HX.out.set 0 _).set 1 _) (j := 2) (.slice A4 m c4') h
          have h := OwnL.set1 (((HX.out.set 0 _).set 1 _).set 2 _) (j := 3) (.slice A3 x.fen.length c3') h
          rwa [hmn, List.take_length, ← hmn] at h
        · exact ((((B0.out.trans (hb.mono B0.out.size)).setCell (p := ⟨w.heap.size + 1, 0, none⟩) (by simp) _).setCell (p := ⟨w.heap.size + 1, 1, none⟩) (by simp) _).setCell (p := ⟨w.heap.size + 1, 2, none⟩) (by simp) _).setCell (p := ⟨w.heap.size + 1, 3, none⟩) (by simp) _
end Go.Proofs.YtkddckfgdiemkaaGreat
