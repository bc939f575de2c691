/-
  The document's manager, of the kind that counts: made.
-/
import Derived.Test.YtphahilggfckaaaRef1
import Derived.Deep.MidRow
import Derived.Deep.WholeRow
import Derived.Laws.Tables
import Derived.Laws.Rows
import Derived.Laws.NewBlocks
import Derived.Laws.BitsLemmas
import Derived.Deep.RegionHeld3
set_option linter.unusedVariables false
set_option linter.unusedSimpArgs false
namespace Go.Proofs.Ytphahilggfckaaa
open Go.RowKit Mem Qm
set_option maxRecDepth 100000

theorem wpList_store_new {P : Program} {ops : Array Oper} {rest : List Oper} {o : Oper} {a : Act} {w : World} {Q : Exit → Act → World → Prop} (hgd : o.guard = none) (ty : TypeId) (x y : Operand) (ho : o.op = .store ty x y)
    (cells : Array Value) (old : Array Value) (t : TypeId) (hx : a.eval x = .pointer (some ⟨w.heap.size, 0, none⟩)) (hy : a.eval y = .agg cells) (hi : (P.info? ty).map (·.size) = some cells.size) (hold : old.size = cells.size) (h1 : cells.all (·.oneCell') = true)
    (h : wpList P ops Q rest (a.put o.dst undef) (w.alloc (.cells cells t))) : wpList P ops Q (o :: rest) a (w.alloc (.cells old t)) :=
  wpList_store_row hgd ty x y ho w.heap.size cells hx hy t old (heap_alloc_new w _) hi hold h1 (by rw [World.setRow_alloc_new]; exact h)
/-- The cells of a manager that was just made. -/
def rCells (n : Int) : List Value := [.bool true, .int .i64 4, .int .i64 n, .int .i64 0] ++ (ints (zeros 12) ++ (bools [false, false, false, false] ++ (ints (zeros 8) ++ [.slice none 0 0, .slice none 0 0])))
theorem rCells_eq {m : Nat} (h0 : 1 ≤ m) (h1 : m ≤ 4) : rCells (m : Int) = mCells (q0 m) [false, false, false, false] (.slice none 0 0) := by
  rcases (show m = 1 ∨ m = 2 ∨ m = 3 ∨ m = 4 by omega) with rfl | rfl | rfl | rfl <;> rfl
theorem wpList_build_as {P : Program} {ops : Array Oper} {rest : List Oper} {o : Oper} {a : Act} {w : World} {Q : Exit → Act → World → Prop} (hg : o.guard = none) (t : TypeId) (parts : Array (Nat × Operand)) (ho : o.op = .build t parts) (cells : Array Value)
    (hf : P.built t (parts.map fun (i, x) => (i, a.eval x)).toList = some cells) (h : wpList P ops Q rest (a.put o.dst (.agg cells)) w) : wpList P ops Q (o :: rest) a w :=
  wpList_build hg t parts ho (by rw [hf]; rfl) (by rw [hf]; exact h)
def zCells : List Value := [.bool false, .int .i64 0, .int .i64 0, .int .i64 0] ++ (ints (zeros 12) ++ (bools [false, false, false, false] ++ (ints (zeros 8) ++ [.slice none 0 0, .slice none 0 0])))
theorem results_cell_tmp_row {P : Program} {fn : Func} {p u : Tmp} {ty : TypeId} (h : fn.results = #[.cell p ty, .tmp u]) (tmps : Array Value) (w : World) (g : Nat) (t : TypeId) (cs : Array Value) (fr : Nat × Nat) (d : TypeDesc)
    (hp : tmps.getD p undef = .pointer (some ⟨g, 0, none⟩)) (hg : w.heap[g]? = some (.cells cs t fr))
    (hu : P.underlying ty = some d) (hd : (match d with | .struct _ | .array _ _ => true | _ => false) = true) (hi : (P.info? ty).map (·.size) = some cs.size) :
    (results fn tmps).run P w = .ok (.tuple #[.agg cs, tmps.getD u undef]) w := by
  have hp' : tmps[p]?.getD undef = .pointer (some ⟨g, 0, none⟩) := by simpa using hp
  simp [results, h, hp', asAddr, run_loadVar_row w g t ty cs fr d hg hu hd hi]
theorem results_tmp_cell_tmp_mid {P : Program} {fn : Func} {s p u : Tmp} {ty : TypeId} (h : fn.results = #[.tmp s, .cell p ty, .tmp u]) (tmps : Array Value) (w : World) (g : Nat) (cs : List Value) (d : TypeDesc)
    (hp : tmps.getD p undef = .pointer (some ⟨g, 0, none⟩)) (hg : w.rangeAt g 0 cs) (hu : P.underlying ty = some d) (hd : d.isRow = true) (hi : (P.info? ty).map (·.size) = some cs.length) :
    (results fn tmps).run P w = .ok (.tuple #[tmps.getD s undef, .agg cs.toArray, tmps.getD u undef]) w := by
  have hp' : tmps[p]?.getD undef = .pointer (some ⟨g, 0, none⟩) := by simpa using hp
  simp [results, h, hp', asAddr, run_loadVar_mid w g 0 ty cs d hg hu hd hi]
/-- Some 30 cells, hidden. -/
structure Thirty (CS : List Value) : Prop where
  len : CS.length = 30
  one : CS.toArray.all (·.oneCell') = true
  inf : (Try.prog.info? 37).map (·.size) = some CS.toArray.size
theorem thirty {CS : List Value} (h : CS.length = 30) (h1 : CS.toArray.all (·.oneCell') = true) : Thirty CS := ⟨h, h1, by rw [List.size_toArray, h]; kernel_rfl⟩
theorem rnew10_yes {w : World} {m : Nat} (h0 : 1 ≤ m) (h1 : m ≤ 4) :
    Calls Try.prog 34 #[.int .i64 4, .int .i64 (m : Int)] w fun e w' => e = .returned (.tuple #[.agg (rCells m).toArray, .int .i64 0]) ∧ Below w.heap.size w w' := by
  obtain ⟨CS, hCS⟩ : ∃ CS, rCells (m : Int) = CS := ⟨_, rfl⟩
  have HCS := Lib.hid hCS
  have hC := Lib.hid (thirty (CS := CS) (by rw [← hCS]; rfl) (by rw [← hCS]; simp [rCells, ints, bools, zeros, Value.oneCell']))
  clear hCS
  go_enter Try.func34, Try.ntmps34
  go_wp2_with (first
    | (refine wpList_build_as rfl 37 _ rfl CS.toArray (by rw [← HCS.out]; kernel_rfl) ?_)
    | (refine wpList_store_new rfl 37 (.tmp 4) (.tmp 23) rfl CS.toArray _ 37 rfl rfl hC.out.inf (by have h9 := hC.out.len; simp [h9]) hC.out.one ?_))
  refine bodyPost_ret_by (results_cell_tmp_row rfl _ _ w.heap.size 37 CS.toArray (0, 0) _ rfl (heap_alloc_last w _) Try.underlying37 rfl hC.out.inf) rfl ?_
  exact ⟨by rw [HCS.out]; rfl, (Below.refl _ _).alloc (Nat.le_refl _) _⟩
theorem Below.setRow_ {B : Nat} {a w : World} (h : Below B a w) {g : Nat} (hg : B ≤ g) (cs : Array Value) : Below B a (w.setRow g cs) :=
  h.trans ⟨rfl, rfl, rfl, by simp, fun k hk => setRow_other w g k cs (by omega)⟩
theorem Blk.setRow_ {w : World} {g : Nat} {t : TypeId} {cs : List Value} (h : Blk w g t cs) (cs' : List Value) : Blk (w.setRow g cs'.toArray) g t cs' := setRow_heap w g _ _ t _ h
theorem Blk.setRow_other {w : World} {g k : Nat} {t : TypeId} {cs : List Value} (h : Blk w k t cs) (hk : k ≠ g) (cs' : Array Value) : Blk (w.setRow g cs') k t cs := (Go.setRow_other w g k cs' hk).trans h
theorem rnew12_yes {w : World} {m : Nat} (h0 : 1 ≤ m) (h1 : m ≤ 4) :
    Calls Try.prog 19 #[.int .i64 (m : Int)] w fun e w' => e = .returned (.tuple #[.agg (rCells m).toArray, .int .i64 0]) ∧ Below w.heap.size w w' := by
  go_enter Try.func19, Try.ntmps19
  go_wp2_with fail
  have bA : Below w.heap.size w (w.alloc (.cells zCells.toArray 37)) := (Below.refl _ _).alloc (Nat.le_refl _) _
  have HBA := Lib.hid bA
  have sA := bA.size
  have hblk : Blk (w.alloc (.cells zCells.toArray 37)) w.heap.size 37 zCells := Blk.new w 37 zCells
  have HK := Lib.hid hblk
  clear bA hblk
  refine (rnew10_yes h0 h1).mono ?_
  rintro e w1 ⟨rfl, b1⟩
  have HB1 := Lib.hid (HBA.out.trans (b1.mono sA))
  have HK1 := Lib.hid (HK.out.below b1)
  clear b1
  obtain ⟨CS, hCS⟩ : ∃ CS, rCells (m : Int) = CS := ⟨_, rfl⟩
  rw [hCS]
  have hC := Lib.hid (thirty (CS := CS) (by rw [← hCS]; rfl) (by rw [← hCS]; simp [rCells, ints, bools, zeros, Value.oneCell']))
  have HCS := Lib.hid hCS
  clear hCS
  go_wp2_with (refine wpList_store_row rfl 37 (.tmp 2) (.tmp 6) rfl w.heap.size CS.toArray rfl rfl 37 zCells.toArray HK1.out hC.out.inf (by have h9 := hC.out.len; simp [h9, zCells, ints, bools, zeros]) hC.out.one ?_)
  have HK2 := Lib.hid (Blk.setRow_ HK1.out CS)
  have HB2 := Lib.hid (Below.setRow_ HB1.out (Nat.le_refl _) CS.toArray)
  refine bodyPost_ret_by (results_cell_tmp_row rfl _ _ w.heap.size 37 CS.toArray (0, 0) _ rfl HK2.out Try.underlying37 rfl hC.out.inf) rfl ?_
  exact ⟨by rw [HCS.out]; rfl, HB2.out⟩
theorem range_blk {w : World} {g : Nat} {t : TypeId} {cs : List Value} (h : Blk w g t cs) : w.rangeAt g 0 cs := by
  intro j u hu
  rw [Nat.zero_add]
  exact Blk.cell h j hu
theorem Below.setCells_ {B : Nat} {g : Nat} (hg : B ≤ g) : ∀ (vs : List Value) (o : Nat) {a w : World}, Below B a w → Below B a (w.setCells g o vs)
  | [], _, _, _, h => h
  | v :: t, o, _, _, h => Below.setCells_ hg t (o + 1) (h.setCell hg v)
theorem Kept.setCells_ {S : Nat → Prop} {g : Nat} {b : World} (hg : S g) : ∀ (vs : List Value) (o : Nat) {w : World}, Kept b w S → Kept b (w.setCells g o vs) S
  | [], _, _, h => h
  | v :: t, o, _, h => Kept.setCells_ hg t (o + 1) (h.setCell (p := ⟨g, o, none⟩) (.inl hg) v)
theorem blk_setCells {g : Nat} {t : TypeId} : ∀ (vs pre old : List Value) {w : World}, Blk w g t (pre ++ old) → old.length = vs.length → Blk (w.setCells g pre.length vs) g t (pre ++ vs)
  | [], pre, old, w, h, hl => by rw [List.eq_nil_of_length_eq_zero hl] at h; exact h
  | v :: vs, pre, [], w, h, hl => by simp at hl
  | v :: vs, pre, x :: old, w, h, hl => by
    have h1 := Blk.set h pre.length v
    rw [show (pre ++ x :: old).set pre.length v = (pre ++ [v]) ++ old by simp] at h1
    have h2 := blk_setCells vs (pre ++ [v]) old h1 (by simpa using hl)
    rw [List.length_append, List.length_singleton] at h2
    simpa [World.setCells] using h2
theorem there_blk {w : World} {g : Nat} {t : TypeId} {cs : List Value} (h : Blk w g t cs) {n : Nat} (hn : n ≤ cs.length) : w.there g 0 n := fun j hj => by
  have hc := Blk.cell h j (List.getElem?_eq_getElem (by omega))
  rw [Nat.zero_add, hc]
  exact ⟨rfl, Blk.free h j⟩
section
variable {P : Program} {ops : Array Oper} {Q : Exit → Act → World → Prop} {md : Region.Mode} {S : World → Prop} {oi : Oper} {fuel : Nat} {listed : Array Bool} {a : Act} {w : World}
theorem takeH_load (i : Nat) (d ty : Nat) (x : Operand) (hi : ops[i]? = some oi) (hg : oi.guard = none) (hd : oi.dst = some d) (ho : oi.op = .load ty x)
    (hs : Region.noSelect ops = true) (hf : Region.free md ops listed i = true) (hr : (Region.ready md ops listed).contains i = true) (hS : S w)
    (g : Nat) (hx : a.eval x = .pointer (some ⟨g, 0, none⟩)) (cs : List Value) (e : TypeDesc) (hR : ∀ w, S w → w.rangeAt g 0 cs) (hu : P.underlying ty = some e) (he : e.isRow = true) (hz : (P.info? ty).map (·.size) = some cs.length)
    (hQ : ∀ c a w, Q (.panic c) (a.put (some d) (.agg cs.toArray)) w → Q (.panic c) a w)
    (h : wpAnyH P md ops Q S fuel (listed.setIfInBounds i true) (a.put (some d) (.agg cs.toArray)) w) : wpAnyH P md ops Q S (fuel + 1) listed a w :=
  wpAnyH_take hi hs hf hr (by rw [hd]; exact hQ) (yieldsIf_load_mid (by simp [Region.wanted, hg]) ty x ho g 0 hx cs e hR hu he hz) hS (by rw [hd]; exact h)
theorem takeH_move (i : Nat) (d : Nat) (x : Operand) (v : Value) (hi : ops[i]? = some oi) (hg : oi.guard = none) (hd : oi.dst = some d) (ho : oi.op = .move x ∨ oi.op = .assign x)
    (hs : Region.noSelect ops = true) (hf : Region.free md ops listed i = true) (hr : (Region.ready md ops listed).contains i = true) (hS : S w)
    (hx : a.eval x = v) (hQ : ∀ c a w, Q (.panic c) (a.put (some d) v) w → Q (.panic c) a w)
    (h : wpAnyH P md ops Q S fuel (listed.setIfInBounds i true) (a.put (some d) v) w) : wpAnyH P md ops Q S (fuel + 1) listed a w :=
  wpAnyH_take hi hs hf hr (by rw [hd]; exact hQ) (.inl ⟨by simp [Region.wanted, hg], fun w _ => by rcases ho with ho | ho <;> (unfold execOp; simp [ho, hx])⟩) hS (by rw [hd]; exact h)
theorem storeH (i : Nat) (ty : Nat) (x y : Operand) (hi : ops[i]? = some oi) (hg : oi.guard = none) (hd : oi.dst = none) (ho : oi.op = .store ty x y) (hr : Region.ready md ops listed = [i])
    (g : Nat) (cells : List Value) (hx : a.eval x = .pointer (some ⟨g, 0, none⟩)) (hy : a.eval y = .agg cells.toArray)
    (ht : w.there g 0 cells.length) (hz : (P.info? ty).map (·.size) = some cells.length) (h1 : cells.toArray.all (·.oneCell') = true) (hS : S (w.setCells g 0 cells))
    (h : wpAnyH P md ops Q S fuel (listed.setIfInBounds i true) a (w.setCells g 0 cells)) : wpAnyH P md ops Q S (fuel + 1) listed a w := by
  refine wpAnyH_ready hr (by simp) (AllReadyH.cons hi (fun K hK => ?_) AllReadyH.nil)
  rw [if_pos (by simp [Region.wanted, hg])]
  refine wp_store_mid ty x y ho g 0 cells.toArray hx hy (by simpa using ht) (by simpa using hz) h1 ?_
  rw [hd]
  exact hK.out _ _ hS (fun _ => h)
end
theorem and_low (n : Int) (j : Nat) (c : Int) (hj : j ≤ 62) (hc : (BitVec.ofInt 64 c).toNat = 2 ^ j - 1) : ∃ m : Nat, m < 2 ^ j ∧ bits .and .i64 n c = (m : Int) := by
  have key : (BitVec.ofInt 64 n &&& BitVec.ofInt 64 c).toNat = (n % ((2 ^ 64 : Nat) : Int)).toNat % 2 ^ j := by
    rw [BitVec.toNat_and, BitVec.toNat_ofInt, hc, Nat.and_two_pow_sub_one_eq_mod]
  have hlt : (n % ((2 ^ 64 : Nat) : Int)).toNat % 2 ^ j < 2 ^ j := Nat.mod_lt _ (Nat.two_pow_pos j)
  have h62 : (2 : Nat) ^ j ≤ 2 ^ 62 := Nat.pow_le_pow_right (by decide) hj
  refine ⟨_, hlt, ?_⟩
  show IntKind.i64.wrap ((BitVec.ofInt 64 n &&& BitVec.ofInt 64 c).toNat : Nat) = _
  rw [key, IntKind.wrap_i64]
  omega
theorem made_n (t : Int) : ∃ m : Nat, 1 ≤ m ∧ m ≤ 4 ∧ wrap64 (1 + bits BinOp.and IntKind.i64 t 3) = (m : Int) := by
  obtain ⟨k, hk, he⟩ := and_low t 2 3 (by decide) (by decide)
  refine ⟨1 + k, by omega, by omega, ?_⟩
  rw [he]
  simp only [wrap64]
  omega
/-- What was made, of no acts. -/
theorem drew_below {B : Nat} {a w : World} (h : Below B a w) : Below B a w.drew := h.trans (Below.refl _ _).drew
theorem size_drew (w : World) : w.drew.heap.size = w.heap.size := rfl
set_option maxHeartbeats 1000000 in
theorem made_nil {w : World} {t : Int} :
    Calls Try.prog 15 #[.int .i64 t, .slice none 0 0] w fun e w' => ∃ (m g gh b B : Nat) (CS : List Value), 1 ≤ m ∧ m ≤ 4 ∧ e = .returned (.tuple #[.pointer (some ⟨g, 0, none⟩), .agg CS.toArray, .int .i64 (m : Int)]) ∧ Thirty CS ∧ w.heap.size ≤ B ∧ B ≤ w'.heap.size ∧ IsC w' B g gh b 0 (.slice none 0 0) (q0 m) ∧ Below w.heap.size w w' := by
  obtain ⟨m, h0, h1, hm⟩ := made_n t
  have HM := Lib.hid hm
  have H01 := Lib.hid (And.intro h0 h1)
  clear hm
  go_enter Try.func15, Try.ntmps15
  go_wp2_with fail
  generalize hW0 : w.alloc _ = W0
  have HBA := Lib.hid (show Below w.heap.size w W0 by rw [← hW0]; exact (Below.refl _ _).alloc (Nat.le_refl _) _)
  have HK := Lib.hid (show Blk W0 w.heap.size 37 zCells by rw [← hW0]; exact Blk.new w 37 zCells)
  have sA := HBA.out.size
  clear hW0
  rw [HM.out]
  refine (new_yes h0 h1).mono ?_
  rintro e w1 ⟨rfl, hi1, b1⟩
  have HI1 := Lib.hid hi1
  have HB1 := Lib.hid (HBA.out.trans (b1.mono sA))
  have HK1 := Lib.hid (HK.out.below b1)
  have s1 := b1.size
  clear b1 hi1
  go_wp2_with fail
  refine (rnew12_yes h0 h1).mono ?_
  rintro e w2 ⟨rfl, b2⟩
  have HI2 := Lib.hid (HI1.out.below b2)
  have HB2 := Lib.hid (HB1.out.trans (b2.mono (by omega)))
  have HK2 := Lib.hid (HK1.out.below b2)
  have s2 := b2.size
  clear b2
  obtain ⟨CS, hCS⟩ : ∃ CS, rCells (m : Int) = CS := ⟨_, rfl⟩
  rw [hCS]
  have hC := Lib.hid (thirty (CS := CS) (by rw [← hCS]; rfl) (by rw [← hCS]; simp [rCells, ints, bools, zeros, Value.oneCell']))
  clear hCS
  go_wp2_with (refine wpList_store_new rfl 37 (.tmp 10) (.tmp 24) rfl CS.toArray _ 37 rfl rfl hC.out.inf (by have h9 := hC.out.len; simp [h9]) hC.out.one ?_)
  generalize hW3 : w2.alloc _ = W3
  have hb3 : Below w2.heap.size w2 W3 := by rw [← hW3]; exact (Below.refl _ _).alloc (Nat.le_refl _) _
  have HR3 := Lib.hid (show Blk W3 w2.heap.size 37 CS by rw [← hW3]; exact Blk.new w2 37 CS)
  have HI3 := Lib.hid (HI2.out.below hb3)
  have HB3 := Lib.hid (HB2.out.trans (hb3.mono (by omega)))
  have HK3 := Lib.hid (HK2.out.below hb3)
  have s3 := hb3.size
  clear hW3 hb3
  go_loop [12] (fun i => i = .int .i64 0) (fun i => 0)
  case atStart => rfl
  case round =>
    obtain rfl := hrel
    go_wp2_with fail
    have hu := Try.underlying37
    have hi : (Try.prog.info? 37).map (·.size) = some CS.length := by rw [hC.out.len]; kernel_rfl
    have r0 := range_blk HR3.out
    have t0 := there_blk HK3.out (n := 30) (by simp [zCells, ints, bools, zeros])
    refine wp_region_held_drew (S := fun w' => w'.there w.heap.size 0 30 ∧ (w'.rangeAt w2.heap.size 0 CS)) (by kernel_rfl) ?hS0 (fun hHeld => ?_)
    case hS0 => exact ⟨by simpa using t0, by simpa using r0⟩
    refine takeH_load 1 52 37 (.tmp 10) rfl rfl rfl rfl (by kernel_rfl) (by kernel_rfl) (by kernel_rfl) hHeld w2.heap.size rfl CS _ (fun w h => h.2) hu rfl hi (fun _ _ _ h => h) ?_
    simp only [Act.put, List.setIfInBounds_toArray, List.set_cons_zero, List.set_cons_succ]
    refine takeH_move 0 51 (.tmp 8) (.pointer (some ⟨W0.heap.size + 2, 0, none⟩)) rfl rfl rfl (.inl rfl) (by kernel_rfl) (by kernel_rfl) (by kernel_rfl) hHeld rfl (fun _ _ _ h => h) ?_
    simp only [Act.put, List.setIfInBounds_toArray, List.set_cons_zero, List.set_cons_succ]
    refine takeH_move 2 53 (.tmp 7) (.int .i64 (m : Int)) rfl rfl rfl (.inl rfl) (by kernel_rfl) (by kernel_rfl) (by kernel_rfl) hHeld rfl (fun _ _ _ h => h) ?_
    simp only [Act.put, List.setIfInBounds_toArray, List.set_cons_zero, List.set_cons_succ]
    refine takeH_move 3 4 (.tmp 51) (.pointer (some ⟨W0.heap.size + 2, 0, none⟩)) rfl rfl rfl (.inr rfl) (by kernel_rfl) (by kernel_rfl) (by kernel_rfl) hHeld rfl (fun _ _ _ h => h) ?_
    simp only [Act.put, List.setIfInBounds_toArray, List.set_cons_zero, List.set_cons_succ]
    have hne : w2.heap.size ≠ w.heap.size := by have := Blk.lt HK2.out; omega
    have hS4 : (W3.drew.setCells w.heap.size 0 CS).there w.heap.size 0 30 ∧ (W3.drew.setCells w.heap.size 0 CS).rangeAt w2.heap.size 0 CS := ⟨World.there_setCells hHeld.1 _ _ _, World.rangeAt_setCells_apart hHeld.2 _ _ _ (.inl hne)⟩
    refine storeH 4 37 (.tmp 5) (.tmp 52) rfl rfl rfl rfl (by kernel_rfl) w.heap.size CS rfl rfl (by rw [hC.out.len]; exact hHeld.1) hi hC.out.one hS4 ?_
    refine takeH_move 5 6 (.tmp 53) (.int .i64 (m : Int)) rfl rfl rfl (.inr rfl) (by kernel_rfl) (by kernel_rfl) (by kernel_rfl) hS4 rfl (fun _ _ _ h => h) ?_
    simp only [Act.put, List.setIfInBounds_toArray, List.set_cons_zero, List.set_cons_succ]
    refine wpAnyH_done (by kernel_rfl) ?_ _
    have HI4 := Lib.hid ((HI3.out.drew).keep (Kept.setCells_ (S := fun i => i = w.heap.size) rfl CS 0 (Kept.refl W3.drew _)) (fun i hi e => by
      have h1 := HI3.out.foot_lo i hi
      have h2 := Blk.lt HK.out
      omega))
    have HB4 := Lib.hid (Below.setCells_ (Nat.le_refl w.heap.size) CS 0 (drew_below HB3.out))
    have HS4 := Lib.hid (show W0.heap.size ≤ (W3.drew.setCells w.heap.size 0 CS).heap.size from by
      have := (Below.setCells_ (B := w.heap.size) (Nat.le_refl w.heap.size) CS 0 (Below.refl _ W3.drew)).size
      rw [size_drew] at this
      omega)
    have HR4 := Lib.hid (World.rangeAt_setCells_same W3.drew w.heap.size 0 CS (by rw [hC.out.len]; exact hHeld.1))
    generalize W3.drew.setCells w.heap.size 0 CS = W4 at *
    go_wp2
    refine bodyPost_ret_by (results_tmp_cell_tmp_mid rfl _ _ w.heap.size CS _ rfl HR4.out hu rfl hi) rfl ?_
    exact ⟨m, _, _, _, W0.heap.size, CS, h0, h1, rfl, hC.out, sA, HS4.out, HI4.out, HB4.out⟩
end Go.Proofs.Ytphahilggfckaaa
