/-
  An address waits just as long as its life meets the interval of some thread inside, or such a thread holds it, reckoned from the deeds alone: the plain part, and the walk of the law.
-/
import Derived.Test.YtiokifkppfegfaaRef2
import Derived.Deep.CutRange
set_option linter.unusedVariables false
set_option linter.unusedSimpArgs false
namespace Go.Proofs.Ytiokifkppfegfaa
open Go.RowKit Mem Qm
set_option maxRecDepth 100000

/-! Births, kept as lives. -/
def toB (x : Life) : Bi := (x.a, x.b)
def lk (L : List Life) (a : Int) : Int := look (L.map toB) a
def fgt (L : List Life) (a : Int) : List Life := L.filter fun p => decide (p.a ≠ a)
theorem fgt_snoc {L : List Life} {k : Nat} (h : k < L.length) (a : Int) : fgt (L.take (k + 1)) a = if L[k].a = a then fgt (L.take k) a else fgt (L.take k) a ++ [L[k]] := by
  rw [take_snoc h, fgt, List.filter_append]
  split
  · rename_i e; simp [fgt, e]
  · rename_i e; simp [fgt, e]
theorem fgt_le (L : List Life) (a : Int) : (fgt L a).length ≤ L.length := List.length_filter_le _ _
theorem fgt_map : ∀ (L : List Life) (a : Int), (fgt L a).map toB = forgetL (L.map toB) a
  | [], a => rfl
  | x :: t, a => by
    have ih := fgt_map t a
    by_cases h : x.a = a
    · have e1 : fgt (x :: t) a = fgt t a := by simp [fgt, h]
      have e2 : forgetL ((x :: t).map toB) a = forgetL (t.map toB) a := by simp [forgetL, toB, h]
      rw [e1, e2, ih]
    · have e1 : fgt (x :: t) a = x :: fgt t a := by simp [fgt, h]
      have e2 : forgetL ((x :: t).map toB) a = toB x :: forgetL (t.map toB) a := by simp [forgetL, toB, h]
      rw [e1, e2, List.map_cons, ih]
theorem lk_fgt (L : List Life) (a x : Int) : lk (fgt L a) x = if x = a then 0 else lk L x := by rw [lk, fgt_map, look_forget]; rfl
theorem lk_snoc (L : List Life) (p : Life) (a : Int) : lk (L ++ [p]) a = if p.a = a then p.b else lk L a := by
  rw [lk, List.map_append, List.map_cons, List.map_nil, look_snoc]; rfl
theorem lk_take {L : List Life} {k : Nat} (h : k < L.length) (a : Int) : lk (L.take (k + 1)) a = if L[k].a = a then L[k].b else lk (L.take k) a := by rw [take_snoc h, lk_snoc]
def fgtAll (L : List Life) : List Int → List Life
  | [] => L
  | a :: t => fgtAll (fgt L a) t
theorem fgtAll_app : ∀ (l m : List Int) (L : List Life), fgtAll L (l ++ m) = fgtAll (fgtAll L l) m
  | [], m, L => rfl
  | a :: t, m, L => fgtAll_app t m _
theorem fgtAll_snoc (L : List Life) (l : List Int) (a : Int) : fgtAll L (l ++ [a]) = fgt (fgtAll L l) a := by rw [fgtAll_app]; rfl
theorem fgtAll_le : ∀ (l : List Int) (L : List Life), (fgtAll L l).length ≤ L.length
  | [], L => Nat.le_refl _
  | a :: t, L => Nat.le_trans (fgtAll_le t _) (fgt_le L a)
theorem lk_fgtAll : ∀ (l : List Int) (L : List Life) (x : Int), lk (fgtAll L l) x = clr (lk L) l x
  | [], L, x => by simp [fgtAll, clr]
  | a :: t, L, x => by
    rw [fgtAll, lk_fgtAll t]
    simp only [clr, lk_fgt, List.mem_cons]
    by_cases h1 : x ∈ t
    · simp [h1]
    · by_cases h2 : x = a
      · simp [h1, h2]
      · simp [h1, h2]
/-! What is met, step by step. -/
def hasTo (s : Sn) (a : Int) : Nat → Bool
  | 0 => false
  | j + 1 => hasTo s a j || decide (hAt s j = a)
theorem hasTo_met (s : Sn) (x : Life) : s.met x = (s.i && ((decide (x.b ≤ s.hi) && decide (s.lo ≤ x.e)) || hasTo s x.a 3)) := by
  have e : hasB s.holds x.a = hasTo s x.a 3 := by
    simp only [hasB, Sn.holds, hasTo, List.any_cons, List.any_nil, Bool.or_false, Bool.false_or]
    have c : ∀ y : Int, decide (x.a = y) = decide (y = x.a) := fun y => by
      by_cases h : x.a = y
      · simp [h]
      · rw [decide_eq_false h, decide_eq_false (fun e => h e.symm)]
    rw [c, c, c]
    simp [hAt, Bool.or_assoc]
  simp only [Sn.met, e]
theorem info39 : (Try.prog.info? 39).map (fun i => (i.zero, i.size, i.bytes)) = some (some (.agg #[.int .i64 0, .int .i64 0, .int .i64 0]), 3, 24) := by kernel_rfl
theorem info37 : (Try.prog.info? 37).map (fun i => (i.zero, i.size, i.bytes)) = some (some (.agg #[.bool false, .int .i64 0, .int .i64 0, .int .i64 0, .int .i64 0, .int .i64 0]), 6, 48) := by kernel_rfl
section
variable {w w' : World} {B g b : Nat} {v : Value} {q : Q}
theorem rowS_keep {B' z n : Nat} {e : TypeId} {u : Value} {xs : List Value} (h : IsS w B g b v q) (k : Kept w w' (foot g b v)) (r : Row w B' e z u n xs) (h1 : e ≠ 65) (h2 : e ≠ 71) : Row w' B' e z u n xs :=
  Row.keep r k (fun i hi hf => by
    rcases hf with rfl | rfl | hf
    · exact Row.ne_blk r h.blk h1 hi
    · exact h.map.ne_row r hi
    · exact Row.ne_row r h.row h2 hi hf)
theorem blkS_keep {gv : Nat} {t : TypeId} {cs : List Value} (h : IsS w B g b v q) (k : Kept w w' (foot g b v)) (r : Blk w gv t cs) (h1 : t ≠ 65) (h2 : 71 ≠ t) : Blk w' gv t cs :=
  r.keep k (fun hf => by
    rcases hf with rfl | rfl | hf
    · exact h1 (r.type h.blk).1
    · exact h.map.ne_blk r rfl
    · exact Row.ne_blk h.row r h2 hf)
end
/-- What the law keeps beside the manager: visits at block gv, births u9, lives u10. -/
structure Mi (wr : World) (B gv : Nat) (u9 u10 : Value) (m : Nat) (q : Q) (LB : List Life) : Prop where
  vis : Blk wr gv 37 (seenTo q m)
  br : Row wr B 39 3 u9 LB.length (flat LB)
  lr : Row wr B 39 3 u10 q.ws.length (flat q.ws)
  ap : ∀ i, u9.ownBlock = some i → u10.ownBlock ≠ some i
  gvlo : B ≤ gv
  nm : q.n = (m : Int)
section
variable {w w' : World} {B gv gm bm m : Nat} {u9 u10 v : Value} {q q2 : Q} {LB : List Life}
theorem Mi.keep {S : Nat → Prop} (h : Mi w B gv u9 u10 m q LB) (k : Kept w w' S) (h1 : ¬ S gv) (h2 : ∀ i, u9.ownBlock = some i → ¬ S i) (h3 : ∀ i, u10.ownBlock = some i → ¬ S i) : Mi w' B gv u9 u10 m q LB :=
  ⟨h.vis.keep k h1, Row.keep h.br k h2, Row.keep h.lr k h3, h.ap, h.gvlo, h.nm⟩
theorem Mi.below (h : Mi w B gv u9 u10 m q LB) (k : Below w.heap.size w w') : Mi w' B gv u9 u10 m q LB := h.keep (Kept.of_below k (fun _ => False)) id (fun _ _ => id) (fun _ _ => id)
theorem Mi.keepS {B' : Nat} (h : Mi w B gv u9 u10 m q LB) (hi : IsS w B' gm bm v q2) (k : Kept w w' (foot gm bm v)) : Mi w' B gv u9 u10 m q LB :=
  ⟨blkS_keep hi k h.vis (by decide) (by decide), rowS_keep hi k h.br (by decide) (by decide), rowS_keep hi k h.lr (by decide) (by decide), h.ap, h.gvlo, h.nm⟩
theorem Mi.off (h : Mi w B gv u9 u10 m q LB) {B' : Nat} (hi : IsS w B' gm bm v q2) : ∀ i, foot gm bm v i → ¬ i = gv := by
  rintro i (rfl | rfl | hf) rfl
  · exact absurd (hi.blk.type h.vis).1 (by decide)
  · exact hi.map.ne_blk h.vis rfl
  · exact Row.ne_blk hi.row h.vis (by decide) hf
theorem Mi.put (h : Mi w B gv u9 u10 m q LB) (hm4 : m ≤ 4) {k : Nat} (hk : k < m) (s : Sn) : Mi (six w gv (k * 6) (k * 6 + 1) (k * 6 + 2) (k * 6 + 3) (k * 6 + 4) (k * 6 + 5) s) B gv u9 u10 m (q.put (k : Int) s) LB :=
  have hk' := six_kept w gv (k * 6) (k * 6 + 1) (k * 6 + 2) (k * 6 + 3) (k * 6 + 4) (k * 6 + 5) s
  ⟨Blk.of (six_blk h.vis _ _ _ _ _ _ s) (seenTo_put q hm4 hk s), Row.keep h.br hk' (fun i hi e => Row.ne_blk h.br h.vis (by decide) (e ▸ hi)), Row.keep h.lr hk' (fun i hi e => Row.ne_blk h.lr h.vis (by decide) (e ▸ hi)), h.ap, h.gvlo, h.nm⟩
theorem Mi.drew (h : Mi w B gv u9 u10 m q LB) : Mi w.drew B gv u9 u10 m q LB := ⟨h.vis, h.br, h.lr, h.ap, h.gvlo, h.nm⟩
end
/-- The cells of a life that is looked at. -/
def LX (w : World) (bb off k : Nat) (x : Life) : Prop := w.cell? ⟨bb, off + k * 3, none⟩ = some (.int .i64 x.a) ∧ w.cell? ⟨bb, off + k * 3 + 1, none⟩ = some (.int .i64 x.b) ∧ w.cell? ⟨bb, off + k * 3 + 2, none⟩ = some (.int .i64 x.e) ∧ bb < w.heap.size
theorem LX.below {w w' : World} {bb off k : Nat} {x : Life} (h : LX w bb off k x) (hb : Below w.heap.size w w') : LX w' bb off k x :=
  ⟨(hb.cell (p := ⟨bb, off + k * 3, none⟩) h.2.2.2).trans h.1, (hb.cell (p := ⟨bb, off + k * 3 + 1, none⟩) h.2.2.2).trans h.2.1, (hb.cell (p := ⟨bb, off + k * 3 + 2, none⟩) h.2.2.2).trans h.2.2.1, Nat.lt_of_lt_of_le h.2.2.2 hb.size⟩
theorem seenTo_hold' (q : Q) {n k j : Nat} (hn : n ≤ 4) (hk : k < n) (hj : j < 3) (e a : Int) : seenTo (q.put (k : Int) ((q.get (k : Int)).hold e (j : Int) a)) n =
    ((seenTo q n).set (k * 6 + 2) (.int .i64 e)).set (k * 6 + 3 + j) (.int .i64 a) := by
  simp only [seenTo, ← List.take_set]
  congr 1
  rcases (show k = 0 ∨ k = 1 ∨ k = 2 ∨ k = 3 by omega) with rfl | rfl | rfl | rfl <;> rcases (show j = 0 ∨ j = 1 ∨ j = 2 by omega) with rfl | rfl | rfl <;> rfl
structure Kn (q : Q) (LB : List Life) (k : Nat) : Prop where
  gd : Good q k
  inv : Inv q
  lk : ∀ a, lk LB a = q.bi a
  len : LB.length ≤ k
/-- What a deed that is not refused makes. -/
theorem ok_in {q : Q} {d : Deed} (h : d.what = 0) (he : (stepQ q d).2.2 = 0) : q.ok d.th ∧ (stepQ q d).1 = q.in_ d.th := by
  have es : stepQ q d = inQ q d.th := by simp [stepQ, h]
  rw [es] at he ⊢
  unfold inQ at he ⊢
  split at he
  · rename_i ht; rw [if_pos ht]; exact ⟨ht, rfl⟩
  · cases he
theorem ok_out {q : Q} {d : Deed} (h : d.what = 1) (he : (stepQ q d).2.2 = 0) : q.ok d.th ∧ (stepQ q d).1 = (q.put d.th Sn.none).swept := by
  have es : stepQ q d = outQ q d.th := by simp [stepQ, h]
  rw [es] at he ⊢
  unfold outQ at he ⊢
  split at he
  · rename_i ht; rw [if_pos ht]; exact ⟨ht, rfl⟩
  · cases he
theorem ok_hold {q : Q} {d : Deed} (h : d.what = 2) (he : (stepQ q d).2.2 = 0) : (q.ok d.th ∧ 0 ≤ d.ho ∧ d.ho < 3 ∧ 0 ≤ d.ad) ∧ (stepQ q d).1 = q.hold d.th d.ho d.ad := by
  have es : stepQ q d = holdQ q d.th d.ho d.ad := by simp [stepQ, h]
  rw [es] at he ⊢
  unfold holdQ at he ⊢
  split at he
  · rename_i ht; rw [if_pos ht]; exact ⟨ht, rfl⟩
  · cases he
theorem ok_born {q : Q} {d : Deed} (h : d.what = 3) (he : (stepQ q d).2.2 = 0) : 0 < d.ad ∧ (stepQ q d).1 = q.born d.ad := by
  have es : stepQ q d = bornQ q d.ad := by simp [stepQ, h]
  rw [es] at he ⊢
  unfold bornQ at he ⊢
  split at he
  · rename_i ht; rw [if_pos ht]; exact ⟨ht.2, rfl⟩
  · cases he
theorem ok_ret {q : Q} {d : Deed} (h : d.what = 4) (he : (stepQ q d).2.2 = 0) : q.ok d.th ∧ (stepQ q d).1 = (q.add d.ad).swept := by
  have es : stepQ q d = retQ q d.th d.ad := by simp [stepQ, h]
  rw [es] at he ⊢
  unfold retQ at he ⊢
  split at he
  · rename_i ht
    rw [if_pos ht]
    split at he
    · cases he
    · rename_i hd; rw [if_neg hd]; exact ⟨ht.1, rfl⟩
  · cases he
theorem ok_rest {q : Q} {d : Deed} (h : d.what = 5) (hok : q.ok 0) : (stepQ q d).1 = q.swept := by
  have es : stepQ q d = restQ q := by simp [stepQ, h]
  rw [es, restQ, if_pos hok]
def qa (q : Q) (d : Deed) : Q := if d.what = 1 then q.put d.th Sn.none else q
def qb (q : Q) (d : Deed) : Q := if d.what = 4 then (qa q d).add d.ad else qa q d
theorem qa_era (q : Q) (d : Deed) : (qa q d).era = q.era := by unfold qa; split <;> rfl
theorem qb_era (q : Q) (d : Deed) : (qb q d).era = q.era := by unfold qb; split <;> exact qa_era q d
theorem qb_bi (q : Q) (d : Deed) : (qb q d).bi = q.bi := by unfold qb qa; repeat' split
                                                            all_goals rfl
theorem qb_len (q : Q) (d : Deed) : (qb q d).ws.length ≤ q.ws.length + 1 := by
  unfold qb qa
  repeat' split
  all_goals first | (simp only [Q.add, List.length_append, List.length_cons, List.length_nil]; exact Nat.le_refl _) | exact Nat.le_succ _
theorem qb_step {q : Q} {d : Deed} (hB : d.what = 1 ∨ d.what = 4 ∨ d.what = 5) (he : (stepQ q d).2.2 = 0) (hok : q.ok 0) : (stepQ q d).1 = (qb q d).swept := by
  rcases hB with h | h | h
  · rw [(ok_out h he).2]; unfold qb qa; rw [if_neg (by omega), if_pos h]
  · rw [(ok_ret h he).2]; unfold qb qa; rw [if_pos h, if_neg (by omega)]
  · rw [ok_rest h hok]; unfold qb qa; rw [if_neg (by omega), if_neg (by omega)]
theorem qb_out {q : Q} {d : Deed} (hI : Inv q) (he : (stepQ q d).2.2 = 0) : ∀ i, (qb q d).n ≤ i → 0 ≤ i → i < 4 → ((qb q d).get i).i = false := by
  unfold qb qa
  by_cases h4 : d.what = 4
  · rw [if_pos h4, if_neg (by omega)]; exact hI.out
  · rw [if_neg h4]
    by_cases h1 : d.what = 1
    · rw [if_pos h1]; exact (inv_put hI (ok_out h1 he).1 Sn.none).out
    · rw [if_neg h1]; exact hI.out
theorem not_ok_same {q : Q} {d : Deed} (he : (stepQ q d).2.2 ≠ 0) : (stepQ q d).1 = q := by
  revert he
  unfold stepQ inQ outQ holdQ bornQ retQ restQ
  repeat' split
  all_goals first | (intro _; rfl) | (intro h; exact absurd rfl h)
theorem other_same {q : Q} {d : Deed} (h : d.what < 0 ∨ 5 < d.what) : (stepQ q d).1 = q := by
  unfold stepQ
  rw [if_neg (by omega), if_neg (by omega), if_neg (by omega), if_neg (by omega), if_neg (by omega), if_neg (by omega)]
theorem rowS_off {w : World} {B B' g b z n : Nat} {v u : Value} {q : Q} {e : TypeId} {xs : List Value} (h : IsS w B g b v q) (r : Row w B' e z u n xs) (h1 : e ≠ 65) (h2 : e ≠ 71) : ∀ i, foot g b v i → ¬ u.ownBlock = some i := by
  rintro i (rfl | rfl | hf) hi
  · exact Row.ne_blk r h.blk h1 hi
  · exact h.map.ne_row r hi
  · exact Row.ne_row r h.row h2 hi hf
theorem Own.keepS {w w' : World} {B B' g b : Nat} {v u : Value} {q : Q} {l : List Int} (hu : Own w B' u l) (h : IsS w B g b v q) (k : Kept w w' (foot g b v)) : Own w' B' u l := rowS_keep h k hu (by decide) (by decide)

def codeLoops : Code → List Code
  | .loop c => c :: codeLoops c
  | .seq a b => codeLoops a ++ codeLoops b
  | .block _ c => codeLoops c
  | .scope c => codeLoops c
  | .cond _ a b => codeLoops a ++ codeLoops b
  | _ => []
noncomputable def loopBody (i : Nat) : Code := ((Try.f3.body.map codeLoops).getD []).getD i .skip
set_option maxHeartbeats 4000000 in
theorem met_loop {w3 : World} {gv bb off nl c10 k m : Nat} {q1 : Q} {x : Life} {c1 c2 c3 c4 c5 c6 c8 c9 c11 c12 c13 c14 c15 c16 c17 c18 c22 c23 c24 c25 c26 c27 c28 c29 c30 c31 c32 c33 c34 c35 c36 c37 c38 c39 c40 c41 c42 c43 c44 c45 c46 c47 c48 c49 c50 c51 c52 c53 c54 c55 c56 c57 c58 c59 c60 c61 c62 c63 c64 c65 c66 c67 c68 c69 c70 c71 c72 c73 c74 c75 c76 c77 c78 c79 c80 c81 c82 c83 c84 c85 c86 c87 c88 c89 c90 c91 c92 c93 c94 c95 c96 c97 c98 c99 c100 c101 c102 c103 c104 c105 c106 c107 c108 c109 c110 c111 c112 c113 c114 c115 c116 c117 c118 c119 c120 c121 c122 c123 c124 c125 c126 c127 c128 c129 c130 c131 c132 c133 c134 c135 c136 c137 c138 c139 c140 c141 c142 c143 c144 c145 c146 c147 c148 c149 c150 c151 c152 c153 c154 c155 c156 c157 c158 c159 c160 c161 c162 c163 c164 c165 c166 c167 c168 c169 c170 c171 c172 c173 c174 c175 c176 c177 c178 c179 c180 c181 c182 c183 c184 c185 c186 c187 c188 c189 c190 c191 c192 c193 c194 c195 c196 c197 c198 c199 c200 c201 c202 c203 c204 c205 c206 c207 c208 c209 c210 c211 c212 c213 c214 c215 c216 c217 c218 c219 c220 c221 c222 c223 c224 c225 c226 c227 c228 c229 c230 c231 c232 c233 c234 c235 c236 c237 c238 c239 c240 c241 c242 c243 c244 c245 c246 c247 c248 c249 c250 c251 c252 c253 c254 c255 c256 c257 c258 c259 c260 c261 c262 c263 c264 c265 c266 c267 c268 c269 c270 c271 c272 c273 c274 c275 c276 c277 : Value} {Q0 : Exit → Act → World → Prop} (hm4 : m ≤ 4) (hkl : k < nl) (hc101 : nl ≤ c10) (hc103 : c10 ≤ 9223372036854775807)
    (HX3 : Hid (LX w3 bb off k x)) (HV3 : Hid (Blk w3 gv 37 (seenTo q1 m))) (HMT : Hid (metTo q1 x m = q1.met x))
    (hexit : ∀ (u21 u22 u23 u175 u176 u177 u178 u179 u180 u181 u182 u183 u184 u185 u186 u187 u188 u189 u190 u191 u192 u193 u194 u195 u196 u197 u198 u199 u200 u201 u202 u203 u204 u205 u206 u207 u208 u209 u210 u211 u212 u213 u214 u215 u216 u217 u218 u219 u220 u221 u222 u223 u224 u225 u226 u227 u228 u229 : Value) (w4 : World), Below w3.heap.size w3 w4 → Q0 (.exit 6) ⟨(List.toArray ((.int .i64 (m : Int)) :: c1 :: c2 :: c3 :: c4 :: c5 :: c6 :: (.slice (some ⟨gv, 0, none⟩) m m) :: c8 :: c9 :: (.slice (some ⟨bb, off, none⟩) nl c10) :: c11 :: c12 :: c13 :: c14 :: c15 :: c16 :: c17 :: c18 :: (.int .i64 (k : Int)) :: (.bool (q1.met x)) :: u21 :: u22 :: u23 :: c24 :: c25 :: c26 :: c27 :: c28 :: c29 :: c30 :: c31 :: c32 :: c33 :: c34 :: c35 :: c36 :: c37 :: c38 :: c39 :: c40 :: c41 :: c42 :: c43 :: c44 :: c45 :: c46 :: c47 :: c48 :: c49 :: c50 :: c51 :: c52 :: c53 :: c54 :: c55 :: c56 :: c57 :: c58 :: c59 :: c60 :: c61 :: c62 :: c63 :: c64 :: c65 :: c66 :: c67 :: c68 :: c69 :: c70 :: c71 :: c72 :: c73 :: c74 :: c75 :: c76 :: c77 :: c78 :: c79 :: c80 :: c81 :: c82 :: c83 :: c84 :: c85 :: c86 :: c87 :: c88 :: c89 :: c90 :: c91 :: c92 :: c93 :: c94 :: c95 :: c96 :: c97 :: c98 :: c99 :: c100 :: c101 :: c102 :: c103 :: c104 :: c105 :: c106 :: c107 :: c108 :: c109 :: c110 :: c111 :: c112 :: c113 :: c114 :: c115 :: c116 :: c117 :: c118 :: c119 :: c120 :: c121 :: c122 :: c123 :: c124 :: c125 :: c126 :: c127 :: c128 :: c129 :: c130 :: c131 :: c132 :: c133 :: c134 :: c135 :: c136 :: c137 :: c138 :: c139 :: c140 :: c141 :: c142 :: c143 :: c144 :: c145 :: c146 :: c147 :: c148 :: c149 :: c150 :: c151 :: c152 :: c153 :: c154 :: c155 :: c156 :: c157 :: c158 :: c159 :: c160 :: c161 :: c162 :: c163 :: c164 :: c165 :: c166 :: c167 :: c168 :: c169 :: c170 :: c171 :: c172 :: c173 :: c174 :: u175 :: u176 :: u177 :: u178 :: u179 :: u180 :: u181 :: u182 :: u183 :: u184 :: u185 :: u186 :: u187 :: u188 :: u189 :: u190 :: u191 :: u192 :: u193 :: u194 :: u195 :: u196 :: u197 :: u198 :: u199 :: u200 :: u201 :: u202 :: u203 :: u204 :: u205 :: u206 :: u207 :: u208 :: u209 :: u210 :: u211 :: u212 :: u213 :: u214 :: u215 :: u216 :: u217 :: u218 :: u219 :: u220 :: u221 :: u222 :: u223 :: u224 :: u225 :: u226 :: u227 :: u228 :: u229 :: c230 :: c231 :: c232 :: c233 :: c234 :: c235 :: c236 :: c237 :: c238 :: c239 :: c240 :: c241 :: c242 :: c243 :: c244 :: c245 :: c246 :: c247 :: c248 :: c249 :: c250 :: c251 :: c252 :: c253 :: c254 :: c255 :: c256 :: c257 :: c258 :: c259 :: c260 :: c261 :: c262 :: c263 :: c264 :: c265 :: c266 :: c267 :: c268 :: c269 :: c270 :: c271 :: c272 :: c273 :: c274 :: c275 :: c276 :: c277 :: [])), []⟩ w4) :
    Code.wp Try.prog (Code.loop (loopBody 3)) Q0 ⟨(List.toArray ((.int .i64 (m : Int)) :: c1 :: c2 :: c3 :: c4 :: c5 :: c6 :: (.slice (some ⟨gv, 0, none⟩) m m) :: c8 :: c9 :: (.slice (some ⟨bb, off, none⟩) nl c10) :: c11 :: c12 :: c13 :: c14 :: c15 :: c16 :: c17 :: c18 :: (.int .i64 (k : Int)) :: (.bool false) :: (.int .i64 0) :: c22 :: c23 :: c24 :: c25 :: c26 :: c27 :: c28 :: c29 :: c30 :: c31 :: c32 :: c33 :: c34 :: c35 :: c36 :: c37 :: c38 :: c39 :: c40 :: c41 :: c42 :: c43 :: c44 :: c45 :: c46 :: c47 :: c48 :: c49 :: c50 :: c51 :: c52 :: c53 :: c54 :: c55 :: c56 :: c57 :: c58 :: c59 :: c60 :: c61 :: c62 :: c63 :: c64 :: c65 :: c66 :: c67 :: c68 :: c69 :: c70 :: c71 :: c72 :: c73 :: c74 :: c75 :: c76 :: c77 :: c78 :: c79 :: c80 :: c81 :: c82 :: c83 :: c84 :: c85 :: c86 :: c87 :: c88 :: c89 :: c90 :: c91 :: c92 :: c93 :: c94 :: c95 :: c96 :: c97 :: c98 :: c99 :: c100 :: c101 :: c102 :: c103 :: c104 :: c105 :: c106 :: c107 :: c108 :: c109 :: c110 :: c111 :: c112 :: c113 :: c114 :: c115 :: c116 :: c117 :: c118 :: c119 :: c120 :: c121 :: c122 :: c123 :: c124 :: c125 :: c126 :: c127 :: c128 :: c129 :: c130 :: c131 :: c132 :: c133 :: c134 :: c135 :: c136 :: c137 :: c138 :: c139 :: c140 :: c141 :: c142 :: c143 :: c144 :: c145 :: c146 :: c147 :: c148 :: c149 :: c150 :: c151 :: c152 :: c153 :: c154 :: c155 :: c156 :: c157 :: c158 :: c159 :: c160 :: c161 :: c162 :: c163 :: c164 :: c165 :: c166 :: c167 :: c168 :: c169 :: c170 :: c171 :: c172 :: c173 :: c174 :: c175 :: c176 :: c177 :: c178 :: c179 :: c180 :: c181 :: c182 :: c183 :: c184 :: c185 :: c186 :: c187 :: c188 :: c189 :: c190 :: c191 :: c192 :: c193 :: c194 :: c195 :: c196 :: c197 :: c198 :: c199 :: c200 :: c201 :: c202 :: c203 :: c204 :: c205 :: c206 :: c207 :: c208 :: c209 :: c210 :: c211 :: c212 :: c213 :: c214 :: c215 :: c216 :: c217 :: c218 :: c219 :: c220 :: c221 :: c222 :: c223 :: c224 :: c225 :: c226 :: c227 :: c228 :: c229 :: c230 :: c231 :: c232 :: c233 :: c234 :: c235 :: c236 :: c237 :: c238 :: c239 :: c240 :: c241 :: c242 :: c243 :: c244 :: c245 :: c246 :: c247 :: c248 :: c249 :: c250 :: c251 :: c252 :: c253 :: c254 :: c255 :: c256 :: c257 :: c258 :: c259 :: c260 :: c261 :: c262 :: c263 :: c264 :: c265 :: c266 :: c267 :: c268 :: c269 :: c270 :: c271 :: c272 :: c273 :: c274 :: c275 :: c276 :: c277 :: [])), []⟩ w3 := by
  have HEX := Lib.hid hexit
  clear hexit
  conv => arg 2; arg 1; whnf
  go_loopw [20, 21] (fun mv i wr => ∃ k2 : Nat, k2 ≤ m ∧ i = .int .i64 k2 ∧ mv = .bool (metTo q1 x k2) ∧ Below w3.heap.size w3 wr) (fun _ i _ => m - (intOf i).toNat)
  case atStart => exact ⟨0, by omega, rfl, rfl, Below.refl _ _⟩
  case round =>
    obtain ⟨k2, hk2, rfl, rfl, hbel⟩ := hrel
    have HB := Lib.hid hbel
    have V := HV3.out.below hbel
    have HX := Lib.hid (show LX wr bb off k x from HX3.out.below hbel)
    have gl := V.lt
    clear hbel
    by_cases hltm : k2 < m
    · have hat := fun j (hj : j < 6) => (seenTo_at q1 hm4 hltm hj)
      have hms := Lib.hid (show metTo q1 x (k2 + 1) = (metTo q1 x k2 || (q1.get k2).met x) from rfl)
      have c0 := V.cell (k2 * 6) (by have := hat 0 (by omega); rw [Nat.add_zero] at this; rw [this]; rfl)
      have c1 := V.cell (k2 * 6 + 1) (by rw [hat 1 (by omega)]; rfl)
      have c2 := V.cell (k2 * 6 + 2) (by rw [hat 2 (by omega)]; rfl)
      have c3 := V.cell (k2 * 6 + 3) (by rw [hat 3 (by omega)]; rfl)
      have c4 := V.cell (k2 * 6 + 4) (by rw [hat 4 (by omega)]; rfl)
      have c5 := V.cell (k2 * 6 + 5) (by rw [hat 5 (by omega)]; rfl)
      obtain ⟨s, hs⟩ : ∃ s, q1.get (k2 : Int) = s := ⟨_, rfl⟩
      rw [hs] at c0 c1 c2 c3 c4 c5 hms
      obtain ⟨x0, x1, x2, xl⟩ := HX.out
      have HSB := Lib.hid (show Blk (wr.alloc (.cells (sCells s).toArray 37)) wr.heap.size 37 (sCells s) from Blk.new wr 37 (sCells s))
      clear hs hat V
      cases hm : metTo q1 x k2 with
      | true =>
        have HM := Lib.hid (show metTo q1 x (k2 + 1) = true by rw [hms.out, hm]; rfl)
        clear hm
        go_wp2_with fail
        go_quiet (fail)
        go_wp2_with fail
        go_loopw [20, 23] (fun mv i w2 => ∃ j : Nat, j ≤ 3 ∧ i = .int .i64 j ∧ mv = .bool true ∧ Blk w2 wr.heap.size 37 (sCells s) ∧ Below wr.heap.size wr w2) (fun _ i _ => 3 - (intOf i).toNat)
        case atStart => exact ⟨0, by omega, rfl, rfl, HSB.out, (((Below.refl _ _).alloc (Nat.le_refl _) _).drewN _)⟩
        case round =>
          obtain ⟨j, hj, rfl, rfl, hb2, hbel2⟩ := hrel
          have y0 := hb2.cell 0 rfl
          skip
          have HB2 := Lib.hid hb2
          have HL2 := Lib.hid hbel2
          obtain ⟨z0, z1, z2, zl⟩ := HX.out.below hbel2
          clear hb2 hbel2
          by_cases hj3 : j < 3
          · go_wp2_with fail
            go_quiet (fail)
            go_wp2
            go_roundw
            case measure => simp [intOf]; omega
            case rel => exact ⟨j + 1, by omega, by go_num, rfl, HB2.out, HL2.out.drewN _⟩
          · have hje : j = 3 := by omega
            have hmv := Lib.hid (show metTo q1 x (k2 + 1) = true from HM.out)
            clear hje
            go_wp2
            go_roundw
            case measure => simp [intOf]; omega
            case rel => exact ⟨k2 + 1, by omega, by go_num, by rw [hmv.out], HB.out.trans (HL2.out.mono HB.out.size)⟩
      | false =>
        have HM0 := Lib.hid hm
        have HM := Lib.hid (show metTo q1 x (k2 + 1) = s.met x by rw [hms.out, hm]; rfl)
        clear hm
        cases hsi : s.i with
        | false =>
          have HSI := Lib.hid hsi
          rw [hsi] at c0
          clear hsi
          go_wp2_with fail
          go_quiet (fail)
          go_wp2_with fail
          go_loopw [20, 23] (fun mv i w2 => ∃ j : Nat, j ≤ 3 ∧ i = .int .i64 j ∧ mv = .bool false ∧ Blk w2 wr.heap.size 37 (sCells s) ∧ Below wr.heap.size wr w2) (fun _ i _ => 3 - (intOf i).toNat)
          case atStart => exact ⟨0, by omega, rfl, rfl, (by have h9 := HSB.out; simp only [sCells, HSI.out] at h9 ⊢; exact h9), (((Below.refl _ _).alloc (Nat.le_refl _) _).drewN _)⟩
          case round =>
            obtain ⟨j, hj, rfl, rfl, hb2, hbel2⟩ := hrel
            have y0 := hb2.cell 0 rfl
            rw [HSI.out] at y0
            have HB2 := Lib.hid hb2
            have HL2 := Lib.hid hbel2
            obtain ⟨z0, z1, z2, zl⟩ := HX.out.below hbel2
            clear hb2 hbel2
            by_cases hj3 : j < 3
            · go_wp2_with fail
              go_quiet (fail)
              go_wp2
              go_roundw
              case measure => simp [intOf]; omega
              case rel => exact ⟨j + 1, by omega, by go_num, rfl, HB2.out, HL2.out.drewN _⟩
            · have hje : j = 3 := by omega
              have hmv := Lib.hid (show metTo q1 x (k2 + 1) = false from by rw [HM.out, sn_met_out HSI.out])
              clear hje
              go_wp2
              go_roundw
              case measure => simp [intOf]; omega
              case rel => exact ⟨k2 + 1, by omega, by go_num, by rw [hmv.out], HB.out.trans (HL2.out.mono HB.out.size)⟩
        | true =>
          have HSI := Lib.hid hsi
          rw [hsi] at c0
          clear hsi
          by_cases hA1 : x.b ≤ s.hi
          · have dA1 : decide (x.b ≤ s.hi) = true := decide_eq_true hA1
            by_cases hA2 : s.lo ≤ x.e
            · have dA2 : decide (s.lo ≤ x.e) = true := decide_eq_true hA2
              have HT := Lib.hid (show metTo q1 x (k2 + 1) = true by rw [HM.out, hasTo_met, HSI.out]; simp [hA1, hA2])
              go_wp2_with fail
              go_quiet (fail)
              go_wp2_with fail
              go_loopw [20, 23] (fun mv i w2 => ∃ j : Nat, j ≤ 3 ∧ i = .int .i64 j ∧ mv = .bool true ∧ Blk w2 wr.heap.size 37 (sCells s) ∧ Below wr.heap.size wr w2) (fun _ i _ => 3 - (intOf i).toNat)
              case atStart => exact ⟨0, by omega, rfl, rfl, (by have h9 := HSB.out; simp only [sCells, HSI.out] at h9 ⊢; exact h9), (((Below.refl _ _).alloc (Nat.le_refl _) _).drewN _)⟩
              case round =>
                obtain ⟨j, hj, rfl, rfl, hb2, hbel2⟩ := hrel
                have y0 := hb2.cell 0 rfl
                rw [HSI.out] at y0
                have HB2 := Lib.hid hb2
                have HL2 := Lib.hid hbel2
                obtain ⟨z0, z1, z2, zl⟩ := HX.out.below hbel2
                clear hb2 hbel2
                by_cases hj3 : j < 3
                · go_wp2_with fail
                  go_quiet (fail)
                  go_wp2
                  go_roundw
                  case measure => simp [intOf]; omega
                  case rel => exact ⟨j + 1, by omega, by go_num, rfl, HB2.out, HL2.out.drewN _⟩
                · have hje : j = 3 := by omega
                  have hmv := Lib.hid (show metTo q1 x (k2 + 1) = true from HT.out)
                  clear hje
                  go_wp2
                  go_roundw
                  case measure => simp [intOf]; omega
                  case rel => exact ⟨k2 + 1, by omega, by go_num, by rw [hmv.out], HB.out.trans (HL2.out.mono HB.out.size)⟩
            · have dA2 : decide (s.lo ≤ x.e) = false := decide_eq_false hA2
              have HT := Lib.hid (show hasTo s x.a 3 = metTo q1 x (k2 + 1) by rw [HM.out, hasTo_met, HSI.out]; simp [hA2])
              go_wp2_with fail
              go_quiet (fail)
              go_wp2_with fail
              go_loopw [20, 23] (fun mv i w2 => ∃ j : Nat, j ≤ 3 ∧ i = .int .i64 j ∧ mv = .bool (hasTo s x.a j) ∧ Blk w2 wr.heap.size 37 (sCells s) ∧ Below wr.heap.size wr w2) (fun _ i _ => 3 - (intOf i).toNat)
              case atStart => exact ⟨0, by omega, rfl, rfl, (by have h9 := HSB.out; simp only [sCells, HSI.out] at h9 ⊢; exact h9), (((Below.refl _ _).alloc (Nat.le_refl _) _).drewN _)⟩
              case round =>
                obtain ⟨j, hj, rfl, rfl, hb2, hbel2⟩ := hrel
                have y0 := hb2.cell 0 rfl
                rw [HSI.out] at y0
                have HB2 := Lib.hid hb2
                have HL2 := Lib.hid hbel2
                obtain ⟨z0, z1, z2, zl⟩ := HX.out.below hbel2
                clear hb2 hbel2
                by_cases hj3 : j < 3
                · have yj := HB2.out.cell (3 + j) (hAt_cell s hj3)
                  have Hs := Lib.hid (show hasTo s x.a (j + 1) = (hasTo s x.a j || decide (hAt s j = x.a)) from rfl)
                  cases hh : hasTo s x.a j with
                  | true =>
                    have HV2 := Lib.hid (show hasTo s x.a (j + 1) = true by rw [Hs.out, hh]; rfl)
                    clear hh
                    go_wp2_with fail
                    go_quiet (fail)
                    go_wp2
                    go_roundw
                    case measure => simp [intOf]; omega
                    case rel => exact ⟨j + 1, by omega, by go_num, by rw [HV2.out], HB2.out, HL2.out.drewN _⟩
                  | false =>
                    by_cases he : hAt s j = x.a
                    · have e1 : (hAt s j == x.a) = true := beq_iff_eq.2 he
                      have HV2 := Lib.hid (show hasTo s x.a (j + 1) = true by rw [Hs.out, hh, decide_eq_true he]; rfl)
                      clear hh he
                      go_wp2_with fail
                      go_quiet (fail)
                      go_wp2
                      go_roundw
                      case measure => simp [intOf]; omega
                      case rel => exact ⟨j + 1, by omega, by go_num, by rw [HV2.out], HB2.out, HL2.out.drewN _⟩
                    · have e1 : (hAt s j == x.a) = false := beq_eq_false_iff_ne.2 he
                      have HV2 := Lib.hid (show hasTo s x.a (j + 1) = false by rw [Hs.out, hh, decide_eq_false he]; rfl)
                      clear hh he
                      go_wp2_with fail
                      go_quiet (fail)
                      go_wp2
                      go_roundw
                      case measure => simp [intOf]; omega
                      case rel => exact ⟨j + 1, by omega, by go_num, by rw [HV2.out], HB2.out, HL2.out.drewN _⟩
                · have hje : j = 3 := by omega
                  have hmv := Lib.hid (show hasTo s x.a j = metTo q1 x (k2 + 1) by rw [hje]; exact HT.out)
                  clear hje
                  rw [hmv.out]
                  go_wp2
                  go_roundw
                  case measure => simp [intOf]; omega
                  case rel => exact ⟨k2 + 1, by omega, by go_num, rfl, HB.out.trans (HL2.out.mono HB.out.size)⟩
          · have dA1 : decide (x.b ≤ s.hi) = false := decide_eq_false hA1
            have HT := Lib.hid (show hasTo s x.a 3 = metTo q1 x (k2 + 1) by rw [HM.out, hasTo_met, HSI.out]; simp [hA1])
            go_wp2_with fail
            go_quiet (fail)
            go_wp2_with fail
            go_loopw [20, 23] (fun mv i w2 => ∃ j : Nat, j ≤ 3 ∧ i = .int .i64 j ∧ mv = .bool (hasTo s x.a j) ∧ Blk w2 wr.heap.size 37 (sCells s) ∧ Below wr.heap.size wr w2) (fun _ i _ => 3 - (intOf i).toNat)
            case atStart => exact ⟨0, by omega, rfl, rfl, (by have h9 := HSB.out; simp only [sCells, HSI.out] at h9 ⊢; exact h9), (((Below.refl _ _).alloc (Nat.le_refl _) _).drewN _)⟩
            case round =>
              obtain ⟨j, hj, rfl, rfl, hb2, hbel2⟩ := hrel
              have y0 := hb2.cell 0 rfl
              rw [HSI.out] at y0
              have HB2 := Lib.hid hb2
              have HL2 := Lib.hid hbel2
              obtain ⟨z0, z1, z2, zl⟩ := HX.out.below hbel2
              clear hb2 hbel2
              by_cases hj3 : j < 3
              · have yj := HB2.out.cell (3 + j) (hAt_cell s hj3)
                have Hs := Lib.hid (show hasTo s x.a (j + 1) = (hasTo s x.a j || decide (hAt s j = x.a)) from rfl)
                cases hh : hasTo s x.a j with
                | true =>
                  have HV2 := Lib.hid (show hasTo s x.a (j + 1) = true by rw [Hs.out, hh]; rfl)
                  clear hh
                  go_wp2_with fail
                  go_quiet (fail)
                  go_wp2
                  go_roundw
                  case measure => simp [intOf]; omega
                  case rel => exact ⟨j + 1, by omega, by go_num, by rw [HV2.out], HB2.out, HL2.out.drewN _⟩
                | false =>
                  by_cases he : hAt s j = x.a
                  · have e1 : (hAt s j == x.a) = true := beq_iff_eq.2 he
                    have HV2 := Lib.hid (show hasTo s x.a (j + 1) = true by rw [Hs.out, hh, decide_eq_true he]; rfl)
                    clear hh he
                    go_wp2_with fail
                    go_quiet (fail)
                    go_wp2
                    go_roundw
                    case measure => simp [intOf]; omega
                    case rel => exact ⟨j + 1, by omega, by go_num, by rw [HV2.out], HB2.out, HL2.out.drewN _⟩
                  · have e1 : (hAt s j == x.a) = false := beq_eq_false_iff_ne.2 he
                    have HV2 := Lib.hid (show hasTo s x.a (j + 1) = false by rw [Hs.out, hh, decide_eq_false he]; rfl)
                    clear hh he
                    go_wp2_with fail
                    go_quiet (fail)
                    go_wp2
                    go_roundw
                    case measure => simp [intOf]; omega
                    case rel => exact ⟨j + 1, by omega, by go_num, by rw [HV2.out], HB2.out, HL2.out.drewN _⟩
              · have hje : j = 3 := by omega
                have hmv := Lib.hid (show hasTo s x.a j = metTo q1 x (k2 + 1) by rw [hje]; exact HT.out)
                clear hje
                rw [hmv.out]
                go_wp2
                go_roundw
                case measure => simp [intOf]; omega
                case rel => exact ⟨k2 + 1, by omega, by go_num, rfl, HB.out.trans (HL2.out.mono HB.out.size)⟩
    · have hke : k2 = m := by omega
      have HMM := Lib.hid (show metTo q1 x k2 = q1.met x by rw [hke]; exact HMT.out)
      rw [HMM.out]
      clear hke V
      go_wp2
      exact HEX.out _ _ _ _ _ _ _ _ _ _ _ _ _ _ _ _ _ _ _ _ _ _ _ _ _ _ _ _ _ _ _ _ _ _ _ _ _ _ _ _ _ _ _ _ _ _ _ _ _ _ _ _ _ _ _ _ _ _ _ HB.out
end Go.Proofs.Ytiokifkppfegfaa
