/-
  slices.Insert of one number: laid from the shelf, and told in rows of the call's own.
-/
import Derived.Test.YtkddckfgdiemkaaGreatCP3
import Derived.Shelf.Spec.SlicesInsertGrow
import Derived.Deep.Upon
set_option linter.unusedVariables false
set_option linter.unusedSimpArgs false
namespace Go.Proofs
open Go.Shelf
def Tryz.laysIns_ren : Go.Shelf.Ren := ⟨fun | 21 => 91 | 27 => 106 | 28 => 107 | 35 => 113 | 39 => 117 | n => n, fun | 0 => 0 | 3 => 3 | 4 => 4 | 22 => 28 | n => n, fun | n => n⟩
theorem Tryz.laysIns : Go.Proofs.Lays2.n21 Tryz.prog Tryz.laysIns_ren := {
  mixed := by kernel_rfl
  f21 := Tryz.func91.trans (congrArg some (by kernel_rfl))
  f27 := Tryz.func106.trans (congrArg some (by kernel_rfl))
  f28 := Tryz.func107.trans (congrArg some (by kernel_rfl))
  f35 := Tryz.func113.trans (congrArg some (by kernel_rfl))
  f39 := Tryz.func117.trans (congrArg some (by kernel_rfl))
  t0 := Tryz.underlying0
  a0 := Tryz.isAgg0
  z0 := Tryz.sizeOf0
  v0 := Tryz.zeroValue0
  t3 := Tryz.underlying3
  a3 := Tryz.isAgg3
  z3 := Tryz.sizeOf3
  v3 := Tryz.zeroValue3
  t4 := Tryz.underlying4
  a4 := Tryz.isAgg4
  z4 := Tryz.sizeOf4
  v4 := Tryz.zeroValue4
  t22 := Tryz.underlying28
  a22 := Tryz.isAgg28
  z22 := Tryz.sizeOf28
  v22 := Tryz.zeroValue28
  i3 := by kernel_rfl }
end Go.Proofs
namespace Go.Proofs.YtkddckfgdiemkaaGreat
open Go.RowKit Go.Shelf Mem
set_option maxRecDepth 100000

theorem cells_set {b : Nat} {t : TypeId} : ∀ (vs : List Value) (o : Nat) (w : World) (cur : Array Value), w.heap[b]? = some (.cells cur t (0, 0)) → o + vs.length ≤ cur.size →
    ∃ cur' : Array Value, (w.setCells b o vs).heap[b]? = some (.cells cur' t (0, 0)) ∧ cur'.size = cur.size ∧ ∀ j : Nat, cur'[j]? = if o ≤ j ∧ j < o + vs.length then vs[j - o]? else cur[j]?
  | [], o, w, cur, h, _ => ⟨cur, h, rfl, fun j => by rw [if_neg (by rintro ⟨h1, h2⟩; simp at h2; omega)]⟩
  | v :: vs, o, w, cur, h, hl => by
    have h1 := heap_setCell_same w b o cur t v h
    obtain ⟨c', a1, a2, a3⟩ := cells_set vs (o + 1) (w.setCell ⟨b, o, none⟩ v) _ h1 (by simp at hl ⊢; omega)
    refine ⟨c', a1, by rw [a2]; simp, fun j => ?_⟩
    rw [a3 j]
    simp only [List.length_cons] at hl ⊢
    by_cases e : j = o
    · subst e
      rw [if_neg (by omega), if_pos (by omega), Nat.sub_self]
      simp only [Array.getElem?_setIfInBounds, if_pos, show j < cur.size by omega]; rfl
    · by_cases h2 : o + 1 ≤ j ∧ j < o + 1 + vs.length
      · rw [if_pos h2, if_pos (by omega), show j - o = (j - (o + 1)) + 1 by omega]; rfl
      · rw [if_neg h2, if_neg (by omega), Array.getElem?_setIfInBounds, if_neg (fun hh => e hh.symm)]
theorem row_mk {w : World} {B b n c : Nat} {t : TypeId} {cur : Array Value} {xs : List Value} (hb : B ≤ b) (hg : w.heap[b]? = some (.cells cur t (0, 0))) (h1 : n ≤ c) (h2 : c ≤ maxLen) (h3 : cur.size = c) (hxs : xs.length = n) (h4 : ∀ j, j < n → cur[j]? = xs[j]?) : Row w B t 1 (.slice (some ⟨b, 0, none⟩) n c) n xs := by
  refine ⟨by rw [hxs, Nat.mul_one], .inr ⟨b, c, cur, rfl, hb, hg, h1, h2, by rw [h3, Nat.mul_one], ?_⟩⟩
  rw [Nat.mul_one]
  refine List.ext_getElem? fun j => ?_
  rw [List.getElem?_take]
  split
  · rename_i hj; rw [← h4 j hj, Array.getElem?_toList]
  · rename_i hj; rw [List.getElem?_eq_none (by omega)]
theorem setCells_kept (w : World) (b o : Nat) (vs : List Value) {S : Nat → Prop} (hs : S b) : Kept w (w.setCells b o vs) S := by
  have : ∀ (vs : List Value) (o : Nat) (W : World), Kept w W S → Kept w (W.setCells b o vs) S := fun vs => by
    induction vs with
    | nil => intro o W h; exact h
    | cons v vs ih => intro o W h; exact ih (o + 1) _ (h.setCell (p := ⟨b, o, none⟩) (.inl hs) v)
  exact this vs o w (Kept.refl _ _)
theorem ints_insAt {l : List Int} {i : Nat} {x : Int} (hi : i ≤ l.length) : ∀ j : Nat, (ints (insAt l i x))[j]? = if j < i then (ints l)[j]? else if j = i then some (.int .i64 x) else (ints l)[j - 1]? := by
  intro j
  simp only [ints, insAt, List.map_append, List.map_take, List.map_cons, List.map_drop]
  rw [List.getElem?_append]
  simp only [List.length_take, List.length_map]
  rw [Nat.min_eq_left hi]
  split
  · rename_i h; rw [List.getElem?_take, if_pos h]
  · rename_i h
    split
    · rename_i h2; rw [h2, Nat.sub_self]; rfl
    · rename_i h2
      rw [show j - i = (j - 1 - i) + 1 by omega, List.getElem?_cons_succ, List.getElem?_drop]
      congr 1; omega
def Inserted (w : World) (B : Nat) (v : Value) (l : List Int) (i : Nat) (x : Int) (e : Ending) (w' : World) : Prop :=
  ∃ u, e = .returned u ∧ Own w' B u (insAt l i x) ∧ Kept w w' (fun k => v.ownBlock = some k) ∧ ∀ k, u.ownBlock = some k → v.ownBlock = some k ∨ w.heap.size ≤ k
theorem insAt_len' (l : List Int) (k : Nat) (x : Int) : (insAt l k x).length = l.length + 1 := by
  simp only [insAt, List.length_append, List.length_take, List.length_cons, List.length_drop]; omega
theorem insert_any {w : World} {B vb : Nat} {v : Value} {l : List Int} {i : Nat} {x : Int} (h : Own w B v l) (h0 : 0 < l.length) (hi : i ≤ l.length) (hl : l.length < 1000000) (hx : Blk w vb 3 [.int .i64 x]) (hne : v.ownBlock ≠ some vb) (hB : B ≤ w.heap.size) :
    Calls Tryz.prog 91 #[v, .int .i64 (i : Int), .slice (some ⟨vb, 0, none⟩) 1 1] w (Inserted w B v l i x) := by
  obtain ⟨b, c, rfl, hBb, hbw, hnc, hc, cur, hg, hcs, hct⟩ := Row.form h h0
  have hvb : vb ≠ b := fun e => hne (by rw [e]; rfl)
  have hcell : ∀ j u, (ints l)[j]? = some u → w.cell? ⟨b, 0 + j, none⟩ = some u := by
    intro j u hu
    obtain ⟨hlen, A', c', hv, _, _, hcl⟩ := Row.rd h
    obtain ⟨b', off', hA, _, hcc⟩ := hcl h0
    injection hv with e1
    rw [← e1] at hA
    injection hA with hA
    injection hA with e2 e3
    subst e2 e3
    exact hcc j u hu
  have hcur : ∀ j, j < l.length → cur[j]? = (ints l)[j]? := fun j hj => by
    rw [← hct, List.getElem?_take_of_lt (by omega), Array.getElem?_toList]
  rw [Nat.mul_one] at hcs
  have hc63 : c ≤ 9223372036854775807 := by simpa [maxLen] using hc
  have hvs : ∀ j u, ([.int .i64 x] : List Value)[j]? = some u → w.cell? ⟨vb, 0 + j, none⟩ = some u := fun j u hu => by rw [Nat.zero_add]; exact hx.cell j hu
  have h1v : ∀ u ∈ ([.int .i64 x] : List Value), u.oneCell' = true := fun u hu => by rw [List.mem_singleton.1 hu]; rfl
  by_cases hroom : l.length + 1 ≤ c
  · by_cases hlt : i < l.length
    · refine (Any2.slices_Insert_int_shift Tryz.laysIns b 0 l.length c i vb 0 1 1 (ints l) [.int .i64 x] w hlt (by decide) hroom hc63 hvb (by simp [ints]) rfl hcell (fun j hj => ?_) (fun j hj => ?_) hvs (ints_one l) h1v 3 3 1 c ?_ ?_ (by omega) (hx.free 0) (hx.free 1)).mono ?_
      · rw [Nat.zero_add, cell_of_row w b j cur 3 _ hg, Array.getElem?_eq_getElem (by omega)]; rfl
      · rw [Nat.zero_add]; exact frozen_of_row w b j cur 3 hg
      · unfold World.shape?; rw [show w.heap[vb]? = _ from hx]; rfl
      · unfold World.shape?; rw [hg, ← hcs]
      · rintro e w' ⟨rfl, rfl⟩
        obtain ⟨c1, a1, a2, a3⟩ := cells_set (b := b) (t := 3) ((ints l).drop i) (0 + (i + 1)) w.drew cur hg (by simp [ints]; omega)
        obtain ⟨c2, d1, d2, d3⟩ := cells_set (b := b) (t := 3) [.int .i64 x] (0 + i) _ c1 a1 (by simp; omega)
        refine ⟨_, rfl, ?_, ((Kept.refl w _).drew.trans (setCells_kept _ b _ _ (S := fun k => k = b) rfl) (fun k _ e => by rw [e]; rfl)).trans (setCells_kept _ b _ _ (S := fun k => k = b) rfl) (fun k _ e => by rw [e]; rfl), fun k hk => .inl hk⟩
        unfold Own
        rw [insAt_len']
        refine row_mk hBb d1 hroom hc (by omega) (by rw [ints_length, insAt_len']) (fun j hj => ?_)
        rw [d3 j, ints_insAt hi j, a3 j]
        simp only [List.length_singleton, List.length_drop, ints_length]
        by_cases e1 : j < i
        · rw [if_neg (by omega), if_neg (by omega), if_pos e1, hcur j (by omega)]
        · by_cases e2 : j = i
          · rw [if_pos (by omega), if_neg e1, if_pos e2, e2, Nat.zero_add, Nat.sub_self]; rfl
          · rw [if_neg (by omega), if_pos (by omega), if_neg e1, if_neg e2, List.getElem?_drop]
            congr 1; omega
    · have hin : i = l.length := by omega
      subst hin
      refine (Any2.slices_Insert_int_end_room Tryz.laysIns b 0 l.length c vb 0 1 1 [.int .i64 x] w (by decide) hroom hc63 rfl (fun j hj => ?_) (fun j hj => ?_) hvs h1v).mono ?_
      · rw [Nat.zero_add, cell_of_row w b _ cur 3 _ hg, Array.getElem?_eq_getElem (by omega)]; rfl
      · rw [Nat.zero_add]; exact frozen_of_row w b _ cur 3 hg
      · rintro e w' ⟨rfl, rfl⟩
        obtain ⟨c2, d1, d2, d3⟩ := cells_set (b := b) (t := 3) [.int .i64 x] (0 + l.length) w cur hg (by simp; omega)
        refine ⟨_, rfl, ?_, setCells_kept _ b _ _ rfl, fun k hk => .inl hk⟩
        unfold Own
        rw [insAt_len']
        refine row_mk hBb d1 hroom hc (by omega) (by rw [ints_length, insAt_len']) (fun j hj => ?_)
        rw [d3 j, ints_insAt hi j]
        simp only [List.length_singleton]
        by_cases e1 : j < l.length
        · rw [if_neg (by omega), if_pos e1, hcur j (by omega)]
        · have e2 : j = l.length := by omega
          rw [if_pos (by omega), if_neg e1, if_pos e2, e2, Nat.zero_add, Nat.sub_self]; rfl
  · have hbig : (l.length + 1) * 8 ≤ 140737488355328 := by omega
    have hG := grownCap_ge w (l.length + 1) c 3
    have hG2 := grownCap_le_maxLen w (l.length + 1) c 3 (by unfold maxLen; omega)
    have hkeep : ∀ (W : World) (o : Obj), W = w.drew.alloc o → Kept w W (fun k => (Value.slice (some ⟨b, 0, none⟩) l.length c).ownBlock = some k) := fun W o e => by rw [e]; exact (Kept.refl w _).drew.alloc o
    by_cases hlt : i < l.length
    · refine (Any2.slices_Insert_int_grow Tryz.laysIns b 0 l.length c i vb 0 1 1 (ints l) [.int .i64 x] w hlt (by decide) hnc (by omega) hbig (by simp [ints]) rfl hcell hvs (ints_one l) h1v).mono ?_
      rintro e w' ⟨rfl, rfl⟩
      obtain ⟨G, hGe⟩ : ∃ G, grownCap w (l.length + 1) c (Tryz.laysIns_ren.t 3) = G := ⟨_, rfl⟩
      have hGG : l.length + 1 ≤ G ∧ G ≤ maxLen := by rw [← hGe]; exact ⟨hG, hG2⟩
      rw [hGe]
      obtain ⟨cur0, hcur0⟩ : ∃ cur0, (((ints l).take i).toArray ++ Builtin.zeroCells (Value.int .i64 0).cells (l.length + 1 - i) ++ Builtin.zeroCells (Value.int .i64 0).cells (G - (l.length + 1)) : Array Value) = cur0 := ⟨_, rfl⟩
      rw [hcur0]
      have hs0 : cur0.size = G := by rw [← hcur0]; simp [Builtin.zeroCells, Value.cells, ints]; omega
      have hf0 : ∀ j, j < i → cur0[j]? = (ints l)[j]? := fun j hj => by
        rw [← hcur0, Array.getElem?_append_left (by simp [ints]; omega), Array.getElem?_append_left (by simp [ints]; omega)]
        rw [List.getElem?_toArray, List.getElem?_take_of_lt hj]
      have hb0 : (w.alloc (.cells cur0 (Tryz.laysIns_ren.t 3))).drew.heap[w.heap.size]? = some (.cells cur0 3 (0, 0)) := heap_alloc_new (w := w) _
      obtain ⟨c1, a1, a2, a3⟩ := cells_set (b := w.heap.size) (t := 3) [.int .i64 x] i _ cur0 hb0 (by simp; omega)
      obtain ⟨c2, d1, d2, d3⟩ := cells_set (b := w.heap.size) (t := 3) ((ints l).drop i) (i + 1) _ c1 (show ((((w.alloc (.cells cur0 (Tryz.laysIns_ren.t 3))).drew).setCells w.heap.size i [.int .i64 x]).drew).heap[w.heap.size]? = _ from a1) (by simp [ints]; omega)
      refine ⟨_, rfl, ?_, ?_, fun k hk => ?_⟩
      · unfold Own
        rw [insAt_len']
        refine row_mk hB d1 hGG.1 hGG.2 (by omega) (by rw [ints_length, insAt_len']) (fun j hj => ?_)
        rw [d3 j, ints_insAt hi j, a3 j]
        simp only [List.length_singleton, List.length_drop, ints_length]
        by_cases e1 : j < i
        · rw [if_neg (by omega), if_neg (by omega), if_pos e1, hf0 j e1]
        · by_cases e2 : j = i
          · rw [if_neg (by omega), if_pos (by omega), if_neg e1, if_pos e2, e2, Nat.sub_self]; rfl
          · rw [if_pos (by omega), if_neg e1, if_neg e2, List.getElem?_drop]
            congr 1; omega
      · have k1 : Kept w ((w.alloc (.cells cur0 (Tryz.laysIns_ren.t 3))).drew) (fun _ => False) := ((Kept.refl w _).alloc _).drew
        have k2 := k1.trans (setCells_kept _ w.heap.size i [.int .i64 x] (S := fun k => k = w.heap.size) rfl) (fun k hk e => by omega)
        exact ((k2.drew.trans (setCells_kept _ w.heap.size (i + 1) ((ints l).drop i) (S := fun k => k = w.heap.size) rfl) (fun k hk e => by omega))).mono (fun k _ h => h.elim)
      · simp [Value.ownBlock] at hk; exact .inr (by omega)
    · have hin : i = l.length := by omega
      subst hin
      refine (Any2.slices_Insert_int_end_grow Tryz.laysIns (some ⟨b, 0, none⟩) l.length c vb 0 1 1 (ints l) [.int .i64 x] w (by decide) hnc (by omega) hbig (by simp [ints]) rfl (fun h => by cases h) (fun a ha j u hu => ?_) hvs h1v).mono ?_
      · injection ha with ha
        subst ha
        rw [Addr.add_mid]; exact hcell j u hu
      · rintro e w' ⟨rfl, rfl⟩
        obtain ⟨G, hGe⟩ : ∃ G, grownCap w (l.length + 1) c (Tryz.laysIns_ren.t 3) = G := ⟨_, rfl⟩
        have hGG : l.length + 1 ≤ G ∧ G ≤ maxLen := by rw [← hGe]; exact ⟨hG, hG2⟩
        rw [hGe]
        obtain ⟨cur0, hcur0⟩ : ∃ cur0, ((ints l ++ [Value.int .i64 x]).toArray ++ Builtin.zeroCells (Value.int .i64 0).cells (G - (l.length + 1)) : Array Value) = cur0 := ⟨_, rfl⟩
        rw [hcur0]
        have hs0 : cur0.size = G := by rw [← hcur0]; simp [Builtin.zeroCells, Value.cells, ints]; omega
        refine ⟨_, rfl, ?_, hkeep _ _ rfl, fun k hk => ?_⟩
        · unfold Own
          rw [insAt_len']
          refine row_mk hB (heap_alloc_new (w := w.drew) _) hGG.1 hGG.2 hs0 (by rw [ints_length, insAt_len']) (fun j hj => ?_)
          rw [← hcur0, Array.getElem?_append_left (by simp [ints]; omega), List.getElem?_toArray, ints_insAt hi j, List.getElem?_append, ints_length]
          by_cases e1 : j < l.length
          · rw [if_pos e1, if_pos e1]
          · have e2 : j = l.length := by omega
            rw [if_neg e1, if_neg e1, if_pos e2, e2, Nat.sub_self]; rfl
        · simp [Value.ownBlock] at hk; exact .inr (by omega)
end Go.Proofs.YtkddckfgdiemkaaGreat
