/-
  The walk of words: what each event read and wrote.
-/
import Derived.Test.YtkddckfgdiemkaaGreatCW10
import Derived.Deep.CutRange
import Derived.Deep.CutBlock
set_option linter.unusedVariables false
set_option linter.unusedSimpArgs false
namespace Go.Proofs.YtkddckfgdiemkaaGreat
open Go.RowKit Go.Shelf Mem
set_option maxRecDepth 100000

structure Wd where
  rd : List Int
  wr : List Int
  kn : List Bool
  tl : List Bool
/-- What is known of what an event read. -/
def wdRead (es : List Ev) (x : Ex) (i : Nat) (s : Wd) : Wd :=
  if isRd (ev es (i : Int)) then
    if x.fr.getD i 0 = -1 then { s with kn := s.kn.set i true }
    else if s.tl.getD (x.fr.getD i 0).toNat false then { s with rd := s.rd.set i (s.wr.getD (x.fr.getD i 0).toNat 0), kn := s.kn.set i true } else s
  else s
/-- .. and of what it wrote. -/
def wdWrite (es : List Ev) (i : Nat) (s : Wd) : Wd :=
  if (ev es (i : Int)).kind = 1 then { s with wr := s.wr.set i (ev es (i : Int)).v, tl := s.tl.set i true }
  else if (ev es (i : Int)).kind = 2 then { s with wr := s.wr.set i (wrap64 (s.rd.getD i 0 + (ev es (i : Int)).v)), tl := s.tl.set i (s.kn.getD i false) }
  else if (ev es (i : Int)).kind = 3 ∨ (ev es (i : Int)).kind = 4 then { s with wr := s.wr.set i (ev es (i : Int)).w, tl := s.tl.set i true }
  else s
def wdTo (es : List Ev) (x : Ex) (s : Wd) : Nat → Wd
  | 0 => s
  | i + 1 => wdWrite es i (wdRead es x i (wdTo es x s i))
def wdZero (n : Nat) : Wd := ⟨List.replicate n 0, List.replicate n 0, List.replicate n false, List.replicate n false⟩
def wdRounds (es : List Ev) (x : Ex) : Nat → Wd
  | 0 => wdZero es.length
  | k + 1 => wdTo es x (wdRounds es x k) es.length
def wordsF (es : List Ev) (x : Ex) : Wd := wdRounds es x (es.length + 1)
structure Wd.Len (n : Nat) (s : Wd) : Prop where
  rd : s.rd.length = n
  wr : s.wr.length = n
  kn : s.kn.length = n
  tl : s.tl.length = n
theorem wdRead_len {es : List Ev} {x : Ex} {i n : Nat} {s : Wd} (h : s.Len n) : (wdRead es x i s).Len n := by
  unfold wdRead
  repeat' split
  all_goals first | exact h | exact ⟨by simp [h.rd], by simp [h.wr], by simp [h.kn], by simp [h.tl]⟩
theorem wdWrite_len {es : List Ev} {i n : Nat} {s : Wd} (h : s.Len n) : (wdWrite es i s).Len n := by
  unfold wdWrite
  repeat' split
  all_goals first | exact h | exact ⟨by simp [h.rd], by simp [h.wr], by simp [h.kn], by simp [h.tl]⟩
theorem wdTo_len {es : List Ev} {x : Ex} {n : Nat} {s : Wd} (h : s.Len n) : ∀ i, (wdTo es x s i).Len n
  | 0 => h
  | i + 1 => wdWrite_len (wdRead_len (wdTo_len h i))
theorem wdRounds_len (es : List Ev) (x : Ex) : ∀ k, (wdRounds es x k).Len es.length
  | 0 => ⟨by simp [wdRounds, wdZero], by simp [wdRounds, wdZero], by simp [wdRounds, wdZero], by simp [wdRounds, wdZero]⟩
  | k + 1 => wdTo_len (wdRounds_len es x k) _
/-- The four lists lie in memory. -/
structure IsW (W : World) (g1 g2 g3 g4 n : Nat) (s : Wd) : Prop where
  rd : Blk W g1 3 (ints s.rd)
  wr : Blk W g2 3 (ints s.wr)
  kn : Blk W g3 4 (bools s.kn)
  tl : Blk W g4 4 (bools s.tl)
  len : s.Len n
theorem IsW.below {W W' : World} {g1 g2 g3 g4 n : Nat} {s : Wd} (h : IsW W g1 g2 g3 g4 n s) (k : Below W.heap.size W W') : IsW W' g1 g2 g3 g4 n s := ⟨h.rd.below k, h.wr.below k, h.kn.below k, h.tl.below k, h.len⟩
theorem Mem.Blk.off {w : World} {g j p : Nat} {t : TypeId} {cs : List Value} {v : Value} (h : Blk w g t cs) (hne : g ≠ p) : Blk (w.setCell ⟨p, j, none⟩ v) g t cs := by
  have := Below.heap_setCell w ⟨p, j, none⟩ v g hne
  exact this.trans h
/-- What is apart. -/
structure Apart4 (g1 g2 g3 g4 : Nat) : Prop where
  a : g1 ≠ g2
  b : g3 ≠ g4
  c : g1 ≠ g3
  d : g1 ≠ g4
  e : g2 ≠ g3
  f : g2 ≠ g4
theorem IsW.setRd {W : World} {g1 g2 g3 g4 n : Nat} {s : Wd} (h : IsW W g1 g2 g3 g4 n s) (a : Apart4 g1 g2 g3 g4) (i : Nat) (y : Int) : IsW (W.setCell ⟨g1, i, none⟩ (.int .i64 y)) g1 g2 g3 g4 n { s with rd := s.rd.set i y } :=
  ⟨by rw [ints_set]; exact h.rd.set _ _, h.wr.off a.a.symm, h.kn.off a.c.symm, h.tl.off a.d.symm, ⟨by simp [h.len.rd], h.len.wr, h.len.kn, h.len.tl⟩⟩
theorem IsW.setWr {W : World} {g1 g2 g3 g4 n : Nat} {s : Wd} (h : IsW W g1 g2 g3 g4 n s) (a : Apart4 g1 g2 g3 g4) (i : Nat) (y : Int) : IsW (W.setCell ⟨g2, i, none⟩ (.int .i64 y)) g1 g2 g3 g4 n { s with wr := s.wr.set i y } :=
  ⟨h.rd.off a.a, by rw [ints_set]; exact h.wr.set _ _, h.kn.off a.e.symm, h.tl.off a.f.symm, ⟨h.len.rd, by simp [h.len.wr], h.len.kn, h.len.tl⟩⟩
theorem IsW.setKn {W : World} {g1 g2 g3 g4 n : Nat} {s : Wd} (h : IsW W g1 g2 g3 g4 n s) (a : Apart4 g1 g2 g3 g4) (i : Nat) (y : Bool) : IsW (W.setCell ⟨g3, i, none⟩ (.bool y)) g1 g2 g3 g4 n { s with kn := s.kn.set i y } :=
  ⟨h.rd.off a.c, h.wr.off a.e, by rw [bools_set]; exact h.kn.set _ _, h.tl.off a.b.symm, ⟨h.len.rd, h.len.wr, by simp [h.len.kn], h.len.tl⟩⟩
theorem IsW.setTl {W : World} {g1 g2 g3 g4 n : Nat} {s : Wd} (h : IsW W g1 g2 g3 g4 n s) (a : Apart4 g1 g2 g3 g4) (i : Nat) (y : Bool) : IsW (W.setCell ⟨g4, i, none⟩ (.bool y)) g1 g2 g3 g4 n { s with tl := s.tl.set i y } :=
  ⟨h.rd.off a.d, h.wr.off a.f, h.kn.off a.b, by rw [bools_set]; exact h.tl.set _ _, ⟨h.len.rd, h.len.wr, h.len.kn, by simp [h.len.tl]⟩⟩
theorem blkrep (W : World) (n : Nat) (v : Value) (t : TypeId) : Blk (W.alloc (.cells (Array.replicate n v) t)) W.heap.size t (List.replicate n v) := by
  have := Blk.new W t (List.replicate n v)
  simpa using this
theorem blkrep_at {W : World} {m : Nat} (n : Nat) (v : Value) (t : TypeId) (h : W.heap.size = m) : Blk (W.alloc (.cells (Array.replicate n v) t)) m t (List.replicate n v) := by subst h; exact blkrep W n v t
theorem blk_drew {W : World} {g : Nat} {t : TypeId} {cs : List Value} (h : Blk W g t cs) : Blk W.drew g t cs := h
theorem IsW.drew {W : World} {g1 g2 g3 g4 n : Nat} {s : Wd} (h : IsW W g1 g2 g3 g4 n s) : IsW W.drew g1 g2 g3 g4 n s := ⟨h.rd, h.wr, h.kn, h.tl, h.len⟩
theorem bool_getD {l : List Bool} {k : Nat} (h : k < l.length) : l.getD k false = l[k] := by simp [List.getD, List.getElem?_eq_getElem h]
theorem IsW.cells {W : World} {g1 g2 g3 g4 n : Nat} {s : Wd} (h : IsW W g1 g2 g3 g4 n s) {i : Nat} (hi : i < n) :
    W.cell? ⟨g1, i, none⟩ = some (.int .i64 (s.rd.getD i 0)) ∧ W.cell? ⟨g2, i, none⟩ = some (.int .i64 (s.wr.getD i 0)) ∧ W.cell? ⟨g3, i, none⟩ = some (.bool (s.kn.getD i false)) ∧ W.cell? ⟨g4, i, none⟩ = some (.bool (s.tl.getD i false)) := by
  refine ⟨?_, ?_, ?_, ?_⟩
  · rw [int_getD (by rw [h.len.rd]; exact hi)]; exact h.rd.cell i (ints_at _ _ _)
  · rw [int_getD (by rw [h.len.wr]; exact hi)]; exact h.wr.cell i (ints_at _ _ _)
  · rw [bool_getD (by rw [h.len.kn]; exact hi)]; exact h.kn.cell i (bools_at _ _ _)
  · rw [bool_getD (by rw [h.len.tl]; exact hi)]; exact h.tl.cell i (bools_at _ _ _)
theorem IsW.frees {W : World} {g1 g2 g3 g4 n : Nat} {s : Wd} (h : IsW W g1 g2 g3 g4 n s) (i : Nat) : W.frozen? ⟨g1, i, none⟩ = false ∧ W.frozen? ⟨g2, i, none⟩ = false ∧ W.frozen? ⟨g3, i, none⟩ = false ∧ W.frozen? ⟨g4, i, none⟩ = false :=
  ⟨h.rd.free i, h.wr.free i, h.kn.free i, h.tl.free i⟩
/-- What words hands back. -/
def NewW (n : Nat) (s : Wd) (w : World) (e : Ending) (w' : World) : Prop := ∃ g1 g2 g3, e = .returned (.tuple #[.slice (some ⟨g1, 0, none⟩) n n, .slice (some ⟨g2, 0, none⟩) n n, .slice (some ⟨g3, 0, none⟩) n n]) ∧
  Blk w' g1 3 (ints s.rd) ∧ Blk w' g2 3 (ints s.wr) ∧ Blk w' g3 4 (bools s.kn) ∧ s.Len n ∧ Below w.heap.size w w'
/-- The sources of what is read are there. -/
def WfR (es : List Ev) (x : Ex) : Prop := x.fr.length = es.length ∧ ∀ i : Nat, i < es.length → isRd (ev es (i : Int)) = true → x.fr.getD i 0 = -1 ∨ (0 ≤ x.fr.getD i 0 ∧ x.fr.getD i 0 < (es.length : Int))
set_option maxHeartbeats 4000000 in
theorem words_any {w : World} {pv fv dv ov sv : Value} {es : List Ev} {x : Ex} (hr : RdE w pv es) (hf : RdI w fv x.fr) (hn : es.length ≤ 31) (hw : WfR es x) :
    Calls Tryz.prog 44 #[pv, .agg #[fv, dv, ov, sv]] w (NewW es.length (wordsF es x) w) := by
  obtain ⟨A, c, rfl, hc1, hc2⟩ := hr.shape
  obtain ⟨Af, cf, rfl, hcf1, hcf2⟩ := hf.shape
  rw [show x.fr.length = es.length from hw.1] at *
  obtain ⟨w0, hw0⟩ : ∃ w0, w.alloc (.cells #[.slice Af es.length cf, dv, ov, sv] 35) = w0 := ⟨_, rfl⟩
  have b0 : Below w.heap.size w w0 := by rw [← hw0]; exact (Below.refl _ w).alloc (Nat.le_refl _) _
  have X0 : Hid (Blk w0 w.heap.size 35 [.slice Af es.length cf, dv, ov, sv]) := Lib.hid (by rw [← hw0]; exact Blk.new w 35 _)
  have R0 := Lib.hid (hr.below b0)
  have F0 : Hid (Rd w0 (.slice Af es.length cf) es.length 1 (ints x.fr)) := Lib.hid (by have h : Rd w0 (.slice Af es.length cf) x.fr.length 1 (ints x.fr) := Rd.below hf b0; rwa [hw.1] at h)
  have hwl : w.heap.size < w0.heap.size := X0.out.lt
  have HW := Lib.hid hw
  have HW0 := Lib.hid hw0
  have B0 := Lib.hid b0
  have hc4 : ∀ W1, Below w0.heap.size w0 W1 → W1.cell? ⟨w.heap.size, 0, none⟩ = some (.slice Af es.length cf) := fun W1 h1 => (X0.out.below h1).cell 0 rfl
  have C4 := Lib.hid hc4
  have mki := run_make_rows (P := Tryz.prog) 28 3 (.int .i64 0) 1 8 Tryz.underlying28 info3 es.length (by omega) (by omega)
  rw [madeCells_one (.int .i64 0) rfl] at mki
  have mkb := run_make_rows (P := Tryz.prog) 32 4 (.bool false) 1 1 Tryz.underlying32 info4 es.length (by omega) (by omega)
  rw [madeCells_one (.bool false) rfl] at mkb
  clear hr hf hw hw0 b0 hc4
  go_enter Tryz.func44, Tryz.ntmps44
  go_upto_region 1 with fail
  rw [HW0.out]
  go_cut [4, 5, 6] from 11 to 19 (fun a b c wr => ∃ g1 g2 g3, a = .slice (some ⟨g1, 0, none⟩) es.length es.length ∧ b = .slice (some ⟨g2, 0, none⟩) es.length es.length ∧ c = .slice (some ⟨g3, 0, none⟩) es.length es.length ∧ (Blk wr g1 3 (List.replicate es.length (.int .i64 0)) ∧ Blk wr g2 3 (List.replicate es.length (.int .i64 0)) ∧ Blk wr g3 4 (List.replicate es.length (.bool false))) ∧ (g1 ≠ g2 ∧ g1 ≠ g3 ∧ g2 ≠ g3) ∧ (w0.heap.size ≤ g1 ∧ w0.heap.size ≤ g2 ∧ w0.heap.size ≤ g3) ∧ Below w0.heap.size w0 wr)
  case first =>
    go_region
    all_goals go_wp2_with fail
    all_goals go_meet
    all_goals (
      refine ⟨_, _, _, rfl, rfl, rfl, ⟨?_, ?_, ?_⟩, ⟨?_, ?_, ?_⟩, ⟨?_, ?_, ?_⟩, ((((Below.refl _ w0).alloc (Nat.le_refl _) _).alloc (by simp) _).alloc (by simp; omega) _).drew⟩
      all_goals first
        | omega
        | exact blk_drew (((blkrep _ _ _ _).alloc _).alloc _)
        | exact blk_drew ((blkrep_at _ _ _ (World.size_alloc _ _)).alloc _)
        | exact blk_drew (blkrep_at _ _ _ (by rw [World.size_alloc, World.size_alloc])))
  case rest =>
    obtain ⟨g1, g2, g3, rfl, rfl, rfl, ⟨hb1, hb2, hb3⟩, ⟨n1, n2, n3⟩, ⟨l1, l2, l3⟩, hbc⟩ := hcut
    have Z : Hid (IsW (wc.alloc (.cells (Array.replicate es.length (.bool false)) 4)) g1 g2 g3 wc.heap.size es.length (wdZero es.length)) := Lib.hid (by
      refine ⟨?_, ?_, ?_, ?_, wdRounds_len es x 0⟩
      · have := hb1.alloc (.cells (Array.replicate es.length (.bool false)) 4); simpa [wdZero, ints] using this
      · have := hb2.alloc (.cells (Array.replicate es.length (.bool false)) 4); simpa [wdZero, ints] using this
      · have := hb3.alloc (.cells (Array.replicate es.length (.bool false)) 4); simpa [wdZero, bools] using this
      · have := blkrep wc es.length (.bool false) 4; simpa [wdZero, bools] using this)
    have AP : Hid (Apart4 g1 g2 g3 wc.heap.size) := Lib.hid ⟨n1, Nat.ne_of_lt hb3.lt, n2, Nat.ne_of_lt hb1.lt, n3, Nat.ne_of_lt hb2.lt⟩
    have GL : Hid (w0.heap.size ≤ g1 ∧ w0.heap.size ≤ g2 ∧ w0.heap.size ≤ g3 ∧ w0.heap.size ≤ wc.heap.size) := Lib.hid ⟨l1, l2, l3, hbc.size⟩
    have ZB : Hid (Below w0.heap.size w0 (wc.alloc (.cells (Array.replicate es.length (.bool false)) 4))) := Lib.hid (hbc.alloc hbc.size _)
    obtain ⟨g4, hg4⟩ : ∃ g4, wc.heap.size = g4 := ⟨_, rfl⟩
    have HG4 := Lib.hid hg4
    rw [hg4] at Z AP GL
    clear hb1 hb2 hb3 n1 n2 n3 l1 l2 l3 hbc hg4
    go_upto_region 3 with fail
    rw [HG4.out]
    obtain ⟨wd, hwd⟩ : ∃ wd, wc.alloc (.cells (Array.replicate es.length (.bool false)) 4) = wd := ⟨_, rfl⟩
    rw [hwd] at Z ZB ⊢
    clear hwd
    have e1 : IntKind.i64.wrap ((es.length : Int) + 1) = (es.length : Int) + 1 := by rw [IntKind.wrap_i64]; omega
    go_wp2
    go_loopw [26] (fun i wr => ∃ k : Nat, k ≤ es.length + 1 ∧ i = .int .i64 k ∧ IsW wr g1 g2 g3 g4 es.length (wdRounds es x k) ∧ Below w0.heap.size w0 wr) (fun i _ => es.length + 1 - (intOf i).toNat)
    case atStart => exact ⟨0, Nat.zero_le _, rfl, Z.out, ZB.out⟩
    case round =>
      obtain ⟨k, hk, rfl, hs, hb⟩ := hrel
      have HS := Lib.hid hs
      have HB := Lib.hid hb
      clear hs hb
      by_cases hlt : k < es.length + 1
      · have hlt' : (k : Int) < (es.length : Int) + 1 := by omega
        obtain ⟨s0, hs0⟩ : ∃ s0, wdRounds es x k = s0 := ⟨_, rfl⟩
        rw [hs0] at HS
        have HS0 := Lib.hid hs0
        clear hs0
        go_wp2
        go_loopw [30] (fun i wr => ∃ m : Nat, m ≤ es.length ∧ i = .int .i64 m ∧ IsW wr g1 g2 g3 g4 es.length (wdTo es x s0 m) ∧ Below w0.heap.size w0 wr) (fun i _ => es.length - (intOf i).toNat)
        case atStart => exact ⟨0, Nat.zero_le _, rfl, HS.out, HB.out⟩
        case round =>
          obtain ⟨i, hi, rfl, hs, hb⟩ := hrel
          have HS1 := Lib.hid hs
          have HB1 := Lib.hid hb
          clear hs
          by_cases hli : i < es.length
          · have hli' : (i : Int) < (es.length : Int) := by omega
            have i1 : (0 : Int) ≤ (i : Int) := by omega
            obtain ⟨b, off, hA, hbb, x0, x1, x2, x3, x4, x5⟩ := RdE.at_ (R0.out.below hb) hli
            have c4 := C4.out wr hb
            have hfl : i < x.fr.length := by rw [HW.out.1]; exact hli
            obtain ⟨bf, offf, hAf, hbf, hfc⟩ := Rd.one (Rd.below F0.out hb) hli
            have d0 := hfc.trans (ints_at x.fr i hfl)
            obtain ⟨fk, hfk⟩ : ∃ fk, x.fr[i] = fk := ⟨_, rfl⟩
            rw [hfk] at d0
            subst hA hAf
            obtain ⟨G, hG⟩ : ∃ G, ev es (i : Int) = G := ⟨_, rfl⟩
            rw [hG] at x0 x1 x2 x3 x4 x5
            have hGE := Lib.hid hG
            have hfe : Hid (x.fr.getD i 0 = fk) := Lib.hid (by rw [int_getD hfl, hfk])
            clear hfc hb hG hfk
            obtain ⟨wa, hwa⟩ : ∃ wa, wr.alloc (.cells #[.int .i64 G.kind, .int .i64 G.loc, .int .i64 G.v, .int .i64 G.w, .int .i64 G.ord, .int .i64 G.th] 89) = wa := ⟨_, rfl⟩
            obtain ⟨EB, hEB⟩ : ∃ EB, wr.heap.size = EB := ⟨_, rfl⟩
            have ba : Below wr.heap.size wr wa := by rw [← hwa]; exact (Below.refl _ wr).alloc (Nat.le_refl _) _
            have HE := Lib.hid (show Blk wa wr.heap.size 89 [.int .i64 G.kind, .int .i64 G.loc, .int .i64 G.v, .int .i64 G.w, .int .i64 G.ord, .int .i64 G.th] by rw [← hwa]; exact Blk.new wr 89 _)
            have HSA := Lib.hid (HS1.out.below ba)
            have HBA := Lib.hid (HB1.out.trans (ba.mono HB1.out.size))
            have HD := Lib.hid (fun (W1 : World) (h1 : Below wa.heap.size wa W1) => (World.cell?_of_block (h1.block bf (Nat.lt_of_lt_of_le hbf ba.size))).trans ((World.cell?_of_block (ba.block bf hbf)).trans d0))
            have hgl := GL.out
            go_upto_region 8 with fail
            try rw [hwa]
            obtain ⟨S1, hS1⟩ : ∃ S1, wdTo es x s0 i = S1 := ⟨_, rfl⟩
            rw [hS1] at HSA
            have HS1E := Lib.hid hS1
            have c4' := C4.out wa HBA.out
            have d0' := HD.out wa (Below.refl _ _)
            have hEg : Hid (g1 < EB ∧ g2 < EB ∧ g3 < EB ∧ g4 < EB) := Lib.hid ⟨by rw [← hEB]; exact HS1.out.rd.lt, by rw [← hEB]; exact HS1.out.wr.lt, by rw [← hEB]; exact HS1.out.kn.lt, by rw [← hEB]; exact HS1.out.tl.lt⟩
            rw [hEB] at HE
            have HEB := Lib.hid hEB
            clear hwa ba c4 d0 hS1 x0 x1 x2 x3 x4 x5 hEB
            go_upto_block 4 with fail
            go_cut [40] from 41 to 68 (fun a wr => IsW wr g1 g2 g3 g4 es.length (wdRead es x i S1) ∧ Below w0.heap.size w0 wr ∧ Blk wr EB 89 [.int .i64 G.kind, .int .i64 G.loc, .int .i64 G.v, .int .i64 G.w, .int .i64 G.ord, .int .i64 G.th])
            case first =>
              have e0 := HE.out.cell 0 rfl
              have e1 := HE.out.cell 1 rfl
              have e2 := HE.out.cell 2 rfl
              have e3 := HE.out.cell 3 rfl
              have e4 := HE.out.cell 4 rfl
              have e5 := HE.out.cell 5 rfl
              have hev : Hid (∀ W1, Below wa.heap.size wa W1 → W1.cell? ⟨EB, 0, none⟩ = some (.int .i64 G.kind) ∧ W1.cell? ⟨EB, 1, none⟩ = some (.int .i64 G.loc) ∧ W1.cell? ⟨EB, 2, none⟩ = some (.int .i64 G.v) ∧ W1.cell? ⟨EB, 3, none⟩ = some (.int .i64 G.w) ∧ W1.cell? ⟨EB, 4, none⟩ = some (.int .i64 G.ord) ∧ W1.cell? ⟨EB, 5, none⟩ = some (.int .i64 G.th)) := Lib.hid (fun W1 h1 =>
                ⟨(HE.out.below h1).cell 0 rfl, (HE.out.below h1).cell 1 rfl, (HE.out.below h1).cell 2 rfl, (HE.out.below h1).cell 3 rfl, (HE.out.below h1).cell 4 rfl, (HE.out.below h1).cell 5 rfl⟩)
              have hst : Hid (wdRead es x i S1 = if isRd G then (if fk = -1 then { S1 with kn := S1.kn.set i true } else if S1.tl.getD fk.toNat false then { S1 with rd := S1.rd.set i (S1.wr.getD fk.toNat 0), kn := S1.kn.set i true } else S1) else S1) := Lib.hid (by
                rw [wdRead, hGE.out, hfe.out])
              have n12 := AP.out.a
              have n13 := AP.out.c
              have n31 := AP.out.c.symm
              cases hrd : isRd G with
              | false =>
                have HRD := Lib.hid hrd
                have hst2 : Hid (wdRead es x i S1 = S1) := Lib.hid (by rw [hst.out, hrd]; rfl)
                clear hrd hst
                go_wp2_with (go_at_call 45; refine (reads_any (e := G)).mono ?_; rintro e6 w6 ⟨rfl, hb6⟩; rw [HRD.out]; (try have hb6 : Below wa.heap.size wa w6 := HW6.out.trans (hb6.mono HW6.out.size)); have HW6 := Lib.hid hb6; obtain ⟨e0, e1, e2, e3, e4, e5⟩ := hev.out w6 hb6; clear hb6)
                go_meet
                exact ⟨by rw [hst2.out]; exact HSA.out.below HW6.out, HBA.out.trans (HW6.out.mono HBA.out.size), HE.out.below HW6.out⟩
              | true =>
                have HRD := Lib.hid hrd
                by_cases hf1 : fk = -1
                · have hst2 : Hid (wdRead es x i S1 = { S1 with kn := S1.kn.set i true }) := Lib.hid (by rw [hst.out, hrd, if_pos hf1]; rfl)
                  have hfb : (fk == -1) = true := beq_iff_eq.2 hf1
                  clear hrd hst hf1
                  go_wp2_with (go_at_call 45; refine (reads_any (e := G)).mono ?_; rintro e6 w6 ⟨rfl, hb6⟩; rw [HRD.out]; have HW6 := Lib.hid hb6; obtain ⟨y1, y2, y3, y4⟩ := (HSA.out.below hb6).cells hli; obtain ⟨f1, f2, f3, f4⟩ := (HSA.out.below hb6).frees i; have hg3l := (HSA.out.below hb6).kn.lt; clear hb6)
                  go_meet
                  refine ⟨?_, (HBA.out.trans (HW6.out.mono HBA.out.size)).setCell (p := ⟨g3, i, none⟩) hgl.2.2.1 _, (HE.out.below HW6.out).off (Nat.ne_of_gt hEg.out.2.2.1)⟩
                  rw [hst2.out]
                  exact (HSA.out.below HW6.out).setKn AP.out i true
                · obtain ⟨fn, hfn, hfnl⟩ : ∃ fn : Nat, fk = (fn : Int) ∧ fn < es.length := by
                    have h := HW.out.2 i hli (by rw [hGE.out]; exact hrd)
                    rw [hfe.out] at h
                    exact ⟨fk.toNat, by omega, by omega⟩
                  subst hfn
                  have hfb : ((fn : Int) == -1) = false := beq_eq_false_iff_ne.2 hf1
                  have j1 : (0 : Int) ≤ (fn : Int) := by omega
                  have j2 : (fn : Int) < (es.length : Int) := by omega
                  cases htl : S1.tl.getD fn false with
                  | false =>
                    have hst2 : Hid (wdRead es x i S1 = S1) := Lib.hid (by rw [hst.out, hrd, if_neg hf1, Int.toNat_natCast, htl]; rfl)
                    clear hrd hst hf1
                    go_wp2_with (go_at_call 45; refine (reads_any (e := G)).mono ?_; rintro e6 w6 ⟨rfl, hb6⟩; rw [HRD.out]; (try have hb6 : Below wa.heap.size wa w6 := HW6.out.trans (hb6.mono HW6.out.size)); have HW6 := Lib.hid hb6; obtain ⟨e0, e1, e2, e3, e4, e5⟩ := hev.out w6 hb6; obtain ⟨y1, y2, y3, y4⟩ := (HSA.out.below hb6).cells hli; obtain ⟨f1, f2, f3, f4⟩ := (HSA.out.below hb6).frees i; obtain ⟨t1, t2, t3, t4⟩ := (HSA.out.below hb6).cells hfnl; rw [htl] at t4; have hg3l := (HSA.out.below hb6).kn.lt; have hg1l := (HSA.out.below hb6).rd.lt; clear hb6)
                    go_meet
                    exact ⟨by rw [hst2.out]; exact HSA.out.below HW6.out, HBA.out.trans (HW6.out.mono HBA.out.size), HE.out.below HW6.out⟩
                  | true =>
                    have hst2 : Hid (wdRead es x i S1 = { S1 with rd := S1.rd.set i (S1.wr.getD fn 0), kn := S1.kn.set i true }) := Lib.hid (by rw [hst.out, hrd, if_neg hf1, Int.toNat_natCast, htl]; rfl)
                    clear hrd hst hf1
                    go_wp2_with (go_at_call 45; refine (reads_any (e := G)).mono ?_; rintro e6 w6 ⟨rfl, hb6⟩; rw [HRD.out]; (try have hb6 : Below wa.heap.size wa w6 := HW6.out.trans (hb6.mono HW6.out.size)); have HW6 := Lib.hid hb6; obtain ⟨e0, e1, e2, e3, e4, e5⟩ := hev.out w6 hb6; obtain ⟨y1, y2, y3, y4⟩ := (HSA.out.below hb6).cells hli; obtain ⟨f1, f2, f3, f4⟩ := (HSA.out.below hb6).frees i; obtain ⟨t1, t2, t3, t4⟩ := (HSA.out.below hb6).cells hfnl; rw [htl] at t4; have hg3l := (HSA.out.below hb6).kn.lt; have hg1l := (HSA.out.below hb6).rd.lt; clear hb6)
                    go_meet
                    refine ⟨?_, ((HBA.out.trans (HW6.out.mono HBA.out.size)).setCell (p := ⟨g1, i, none⟩) hgl.1 _).setCell (p := ⟨g3, i, none⟩) hgl.2.2.1 _, ((HE.out.below HW6.out).off (Nat.ne_of_gt hEg.out.1)).off (Nat.ne_of_gt hEg.out.2.2.1)⟩
                    rw [hst2.out]
                    exact ((HSA.out.below HW6.out).setRd AP.out i _).setKn AP.out i true
            case rest =>
              obtain ⟨hs2, hb2, hE2⟩ := hcut
              obtain ⟨y1, y2, y3, y4⟩ := hs2.cells hli
              obtain ⟨f1, f2, f3, f4⟩ := hs2.frees i
              have hg2l := hs2.wr.lt
              have hg4l := hs2.tl.lt
              have e0 := hE2.cell 0 rfl
              have e2 := hE2.cell 2 rfl
              have e3 := hE2.cell 3 rfl
              have n24 := AP.out.f
              have n42 := AP.out.f.symm
              have hst : Hid (wdTo es x s0 (i + 1) = wdWrite es i (wdRead es x i S1)) := Lib.hid (by rw [wdTo, HS1E.out])
              obtain ⟨S2, hS2⟩ : ∃ S2, wdRead es x i S1 = S2 := ⟨_, rfl⟩
              rw [hS2] at hs2 hst y1 y2 y3 y4
              have HS2 := Lib.hid hs2
              have HB2 := Lib.hid hb2
              clear hs2 hb2 hE2 hS2
              have hst2 : Hid (wdTo es x s0 (i + 1) = if G.kind = 1 then { S2 with wr := S2.wr.set i G.v, tl := S2.tl.set i true } else if G.kind = 2 then { S2 with wr := S2.wr.set i (wrap64 (S2.rd.getD i 0 + G.v)), tl := S2.tl.set i (S2.kn.getD i false) }
                else if G.kind = 3 ∨ G.kind = 4 then { S2 with wr := S2.wr.set i G.w, tl := S2.tl.set i true } else S2) := Lib.hid (by rw [hst.out, wdWrite, hGE.out])
              clear hst
              by_cases hk1 : G.kind = 1
              · have hst3 : Hid (wdTo es x s0 (i + 1) = { S2 with wr := S2.wr.set i G.v, tl := S2.tl.set i true }) := Lib.hid (by rw [hst2.out, if_pos hk1])
                have hkb : (G.kind == 1) = true := beq_iff_eq.2 hk1
                clear hst2 hk1
                go_wp2
                go_roundw
                case measure => simp [intOf]; all_goals omega
                case rel => exact ⟨i + 1, by omega, by go_num, by { rw [hst3.out]; exact ((HS2.out.setWr AP.out i _).setTl AP.out i true) }, ((HB2.out.setCell (p := ⟨g2, i, none⟩) hgl.2.1 _).setCell (p := ⟨g4, i, none⟩) hgl.2.2.2 _)⟩
              · have hkb1 : (G.kind == 1) = false := beq_eq_false_iff_ne.2 hk1
                by_cases hk2 : G.kind = 2
                · have hst3 : Hid (wdTo es x s0 (i + 1) = { S2 with wr := S2.wr.set i (wrap64 (S2.rd.getD i 0 + G.v)), tl := S2.tl.set i (S2.kn.getD i false) }) := Lib.hid (by rw [hst2.out, if_neg hk1, if_pos hk2])
                  have hkb : (G.kind == 2) = true := beq_iff_eq.2 hk2
                  clear hst2 hk1 hk2
                  generalize S2.rd.getD i 0 = r0 at *
                  generalize S2.kn.getD i false = k0 at *
                  go_upto_region 17 with fail
                  go_region
                  go_wp2
                  go_roundw
                  case measure => simp [intOf]; all_goals omega
                  case rel => exact ⟨i + 1, by omega, by go_num, by { rw [hst3.out]; exact ((HS2.out.setWr AP.out i _).setTl AP.out i _).drew }, ((HB2.out.setCell (p := ⟨g2, i, none⟩) hgl.2.1 _).setCell (p := ⟨g4, i, none⟩) hgl.2.2.2 _).drew⟩
                · have hkb2 : (G.kind == 2) = false := beq_eq_false_iff_ne.2 hk2
                  by_cases hk3 : G.kind = 3
                  · have hst3 : Hid (wdTo es x s0 (i + 1) = { S2 with wr := S2.wr.set i G.w, tl := S2.tl.set i true }) := Lib.hid (by rw [hst2.out, if_neg hk1, if_neg hk2, if_pos (.inl hk3)])
                    have hkb : (G.kind == 3) = true := beq_iff_eq.2 hk3
                    clear hst2 hk1 hk2 hk3
                    go_wp2
                    go_roundw
                    case measure => simp [intOf]; all_goals omega
                    case rel => exact ⟨i + 1, by omega, by go_num, by { rw [hst3.out]; exact ((HS2.out.setWr AP.out i _).setTl AP.out i true) }, ((HB2.out.setCell (p := ⟨g2, i, none⟩) hgl.2.1 _).setCell (p := ⟨g4, i, none⟩) hgl.2.2.2 _)⟩
                  · have hkb3 : (G.kind == 3) = false := beq_eq_false_iff_ne.2 hk3
                    by_cases hk4 : G.kind = 4
                    · have hst3 : Hid (wdTo es x s0 (i + 1) = { S2 with wr := S2.wr.set i G.w, tl := S2.tl.set i true }) := Lib.hid (by rw [hst2.out, if_neg hk1, if_neg hk2, if_pos (.inr hk4)])
                      have hkb : (G.kind == 4) = true := beq_iff_eq.2 hk4
                      clear hst2 hk1 hk2 hk3 hk4
                      go_wp2
                      go_roundw
                      case measure => simp [intOf]; all_goals omega
                      case rel => exact ⟨i + 1, by omega, by go_num, by { rw [hst3.out]; exact ((HS2.out.setWr AP.out i _).setTl AP.out i true) }, ((HB2.out.setCell (p := ⟨g2, i, none⟩) hgl.2.1 _).setCell (p := ⟨g4, i, none⟩) hgl.2.2.2 _)⟩
                    · have hst3 : Hid (wdTo es x s0 (i + 1) = S2) := Lib.hid (by rw [hst2.out, if_neg hk1, if_neg hk2, if_neg (fun h => h.elim hk3 hk4)])
                      have hkb : (G.kind == 4) = false := beq_eq_false_iff_ne.2 hk4
                      clear hst2 hk1 hk2 hk3 hk4
                      go_wp2
                      go_roundw
                      case measure => simp [intOf]; all_goals omega
                      case rel => exact ⟨i + 1, by omega, by go_num, by { rw [hst3.out]; exact HS2.out }, HB2.out⟩
          · have him : i = es.length := by omega
            have HIM := Lib.hid him
            clear him hb
            go_wp2
            go_roundw
            case measure => simp [intOf]; all_goals omega
            case rel => exact ⟨k + 1, by omega, by go_num, by { rw [wdRounds, HS0.out]; have h := HS1.out; rw [HIM.out] at h; exact h }, HB1.out⟩
      · have hkn : k = es.length + 1 := by omega
        have HKN := Lib.hid hkn
        clear hkn
        go_wp2
        go_ret3
        have h := HS.out
        rw [HKN.out] at h
        exact ⟨g1, g2, g3, rfl, h.rd, h.wr, h.kn, h.len, B0.out.trans (HB.out.mono B0.out.size)⟩
end Go.Proofs.YtkddckfgdiemkaaGreat
