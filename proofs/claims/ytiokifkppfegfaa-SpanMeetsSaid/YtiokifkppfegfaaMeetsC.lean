/-
  The walk of the law of the intervals: a loop as a declaration of its own.
-/
import Derived.Test.YtiokifkppfegfaaMeetsB
import Derived.Deep.CutRange
import Derived.Deep.CutBlock
set_option linter.unusedVariables false
set_option linter.unusedSimpArgs false
namespace Go.Proofs.Ytiokifkppfegfaa
open Go.RowKit Mem Qm
set_option maxRecDepth 100000
set_option maxHeartbeats 4000000 in
theorem lives_loop {wS : World} {BB BL gv c_10 m : Nat} {A10 : Option Addr} {q1 : Q} {LB : List Life} {v9 : Value} {c1 c2 c3 c4 c5 c6 c8 c11 c12 c13 c14 c15 c16 c20 c21 c22 c23 c24 c25 c26 c27 c28 c29 c30 c31 c32 c33 c34 c35 c36 c37 c38 c39 c40 c41 c42 c43 c44 c45 c46 c47 c48 c49 c50 c51 c52 c53 c54 c55 c56 c57 c58 c59 c60 c61 c62 c63 c64 c65 c66 c67 c68 c69 c70 c71 c72 c73 c74 c75 c76 c77 c78 c79 c80 c81 c82 c83 c84 c85 c86 c87 c88 c89 c90 c91 c92 c93 c94 c95 c96 c97 c98 c99 c100 c101 c102 c103 c104 c105 c106 c107 c108 c109 c110 c111 c112 c113 c114 c115 c116 c117 c118 c119 c120 c121 c122 c123 c124 c125 c126 c127 c128 c129 c130 c131 c132 c133 c134 c135 c136 c137 c138 c139 c140 c141 c142 c143 c144 c145 c146 c147 c148 c149 c150 c151 c152 c153 c154 c155 c156 c157 c158 c159 c160 c161 c162 c163 c164 c165 c166 c167 c168 c169 c170 c171 c172 c173 c174 c175 c176 c177 c178 c179 c180 c181 c182 c183 c184 c185 c186 c187 c188 c189 c190 c191 c192 c193 c194 c195 c196 c197 c198 c199 c200 c201 c202 c203 c204 c205 c206 c207 c208 c209 c210 c211 c212 c213 c214 c215 c216 c217 c218 c219 c220 c221 c222 c223 c224 c225 c226 c227 c228 c229 c230 c231 c232 c233 c234 c235 c236 c237 c238 c239 c240 c241 c242 c243 c244 c245 c246 c247 c248 c249 c250 c251 c252 c253 c254 c255 c256 c257 c258 c259 c260 c261 c262 c263 c264 c265 c266 c267 c268 c269 c270 c271 c272 c273 c274 c275 c276 c277 : Value} {Q0 : Exit → Act → World → Prop} (hm4 : m ≤ 4) (hBB : BB ≤ wS.heap.size) (hc101 : q1.ws.length ≤ c_10) (hc103 : c_10 ≤ 9223372036854775807) (hql : q1.ws.length ≤ 201) (hLB : LB.length ≤ 1000)
    (HLS : Hid (Row wS BL 39 3 (.slice A10 q1.ws.length c_10) q1.ws.length (flat q1.ws))) (HVS : Hid (Blk wS gv 37 (seenTo q1 m))) (HBS : Hid (Row wS BB 39 3 v9 LB.length (flat LB))) (HO1 : Hid (∀ i, (m : Int) ≤ i → 0 ≤ i → i < 4 → (q1.get i).i = false))
    (hexit : ∀ (u9 u17 u18 u19 u20 u21 u22 u23 u24 u25 u169 u170 u171 u172 u173 u174 u175 u176 u177 u178 u179 u180 u181 u182 u183 u184 u185 u186 u187 u188 u189 u190 u191 u192 u193 u194 u195 u196 u197 u198 u199 u200 u201 u202 u203 u204 u205 u206 u207 u208 u209 u210 u211 u212 u213 u214 u215 u216 u217 u218 u219 u220 u221 u222 u223 u224 u225 u226 u227 u228 u229 u230 u231 u232 u233 u234 u235 u236 u237 u238 u239 u240 u241 u242 u243 u244 u245 u246 u247 u248 u249 u250 u251 u252 u253 u254 u255 u256 u257 u258 u259 u260 u261 u262 u263 u264 u265 u266 u267 u268 u269 u270 : Value) (wE : World), Row wE BB 39 3 u9 (fgtAll LB (backs q1 q1.ws)).length (flat (fgtAll LB (backs q1 q1.ws))) → Row wE wS.heap.size 39 3 u17 (lefts q1 q1.ws).length (flat (lefts q1 q1.ws)) → Own wE wS.heap.size u18 (addrs (lefts q1 q1.ws)) → (∀ i, u9.ownBlock = some i → u17.ownBlock ≠ some i) → Below wS.heap.size wS wE → Q0 (.exit 4) ⟨(List.toArray ((.int .i64 (m : Int)) :: c1 :: c2 :: c3 :: c4 :: c5 :: c6 :: (.slice (some ⟨gv, 0, none⟩) m m) :: c8 :: u9 :: (.slice A10 q1.ws.length c_10) :: c11 :: c12 :: c13 :: c14 :: c15 :: c16 :: u17 :: u18 :: u19 :: u20 :: u21 :: u22 :: u23 :: u24 :: u25 :: c26 :: c27 :: c28 :: c29 :: c30 :: c31 :: c32 :: c33 :: c34 :: c35 :: c36 :: c37 :: c38 :: c39 :: c40 :: c41 :: c42 :: c43 :: c44 :: c45 :: c46 :: c47 :: c48 :: c49 :: c50 :: c51 :: c52 :: c53 :: c54 :: c55 :: c56 :: c57 :: c58 :: c59 :: c60 :: c61 :: c62 :: c63 :: c64 :: c65 :: c66 :: c67 :: c68 :: c69 :: c70 :: c71 :: c72 :: c73 :: c74 :: c75 :: c76 :: c77 :: c78 :: c79 :: c80 :: c81 :: c82 :: c83 :: c84 :: c85 :: c86 :: c87 :: c88 :: c89 :: c90 :: c91 :: c92 :: c93 :: c94 :: c95 :: c96 :: c97 :: c98 :: c99 :: c100 :: c101 :: c102 :: c103 :: c104 :: c105 :: c106 :: c107 :: c108 :: c109 :: c110 :: c111 :: c112 :: c113 :: c114 :: c115 :: c116 :: c117 :: c118 :: c119 :: c120 :: c121 :: c122 :: c123 :: c124 :: c125 :: c126 :: c127 :: c128 :: c129 :: c130 :: c131 :: c132 :: c133 :: c134 :: c135 :: c136 :: c137 :: c138 :: c139 :: c140 :: c141 :: c142 :: c143 :: c144 :: c145 :: c146 :: c147 :: c148 :: c149 :: c150 :: c151 :: c152 :: c153 :: c154 :: c155 :: c156 :: c157 :: c158 :: c159 :: c160 :: c161 :: c162 :: c163 :: c164 :: c165 :: c166 :: c167 :: c168 :: u169 :: u170 :: u171 :: u172 :: u173 :: u174 :: u175 :: u176 :: u177 :: u178 :: u179 :: u180 :: u181 :: u182 :: u183 :: u184 :: u185 :: u186 :: u187 :: u188 :: u189 :: u190 :: u191 :: u192 :: u193 :: u194 :: u195 :: u196 :: u197 :: u198 :: u199 :: u200 :: u201 :: u202 :: u203 :: u204 :: u205 :: u206 :: u207 :: u208 :: u209 :: u210 :: u211 :: u212 :: u213 :: u214 :: u215 :: u216 :: u217 :: u218 :: u219 :: u220 :: u221 :: u222 :: u223 :: u224 :: u225 :: u226 :: u227 :: u228 :: u229 :: u230 :: u231 :: u232 :: u233 :: u234 :: u235 :: u236 :: u237 :: u238 :: u239 :: u240 :: u241 :: u242 :: u243 :: u244 :: u245 :: u246 :: u247 :: u248 :: u249 :: u250 :: u251 :: u252 :: u253 :: u254 :: u255 :: u256 :: u257 :: u258 :: u259 :: u260 :: u261 :: u262 :: u263 :: u264 :: u265 :: u266 :: u267 :: u268 :: u269 :: u270 :: c271 :: c272 :: c273 :: c274 :: c275 :: c276 :: c277 :: [])), []⟩ wE) :
    Code.wp Try.prog (Code.loop (loopBody 2)) Q0 ⟨(List.toArray ((.int .i64 (m : Int)) :: c1 :: c2 :: c3 :: c4 :: c5 :: c6 :: (.slice (some ⟨gv, 0, none⟩) m m) :: c8 :: (v9) :: (.slice A10 q1.ws.length c_10) :: c11 :: c12 :: c13 :: c14 :: c15 :: c16 :: (.slice none 0 0) :: (.slice none 0 0) :: (.int .i64 0) :: c20 :: c21 :: c22 :: c23 :: c24 :: c25 :: c26 :: c27 :: c28 :: c29 :: c30 :: c31 :: c32 :: c33 :: c34 :: c35 :: c36 :: c37 :: c38 :: c39 :: c40 :: c41 :: c42 :: c43 :: c44 :: c45 :: c46 :: c47 :: c48 :: c49 :: c50 :: c51 :: c52 :: c53 :: c54 :: c55 :: c56 :: c57 :: c58 :: c59 :: c60 :: c61 :: c62 :: c63 :: c64 :: c65 :: c66 :: c67 :: c68 :: c69 :: c70 :: c71 :: c72 :: c73 :: c74 :: c75 :: c76 :: c77 :: c78 :: c79 :: c80 :: c81 :: c82 :: c83 :: c84 :: c85 :: c86 :: c87 :: c88 :: c89 :: c90 :: c91 :: c92 :: c93 :: c94 :: c95 :: c96 :: c97 :: c98 :: c99 :: c100 :: c101 :: c102 :: c103 :: c104 :: c105 :: c106 :: c107 :: c108 :: c109 :: c110 :: c111 :: c112 :: c113 :: c114 :: c115 :: c116 :: c117 :: c118 :: c119 :: c120 :: c121 :: c122 :: c123 :: c124 :: c125 :: c126 :: c127 :: c128 :: c129 :: c130 :: c131 :: c132 :: c133 :: c134 :: c135 :: c136 :: c137 :: c138 :: c139 :: c140 :: c141 :: c142 :: c143 :: c144 :: c145 :: c146 :: c147 :: c148 :: c149 :: c150 :: c151 :: c152 :: c153 :: c154 :: c155 :: c156 :: c157 :: c158 :: c159 :: c160 :: c161 :: c162 :: c163 :: c164 :: c165 :: c166 :: c167 :: c168 :: c169 :: c170 :: c171 :: c172 :: c173 :: c174 :: c175 :: c176 :: c177 :: c178 :: c179 :: c180 :: c181 :: c182 :: c183 :: c184 :: c185 :: c186 :: c187 :: c188 :: c189 :: c190 :: c191 :: c192 :: c193 :: c194 :: c195 :: c196 :: c197 :: c198 :: c199 :: c200 :: c201 :: c202 :: c203 :: c204 :: c205 :: c206 :: c207 :: c208 :: c209 :: c210 :: c211 :: c212 :: c213 :: c214 :: c215 :: c216 :: c217 :: c218 :: c219 :: c220 :: c221 :: c222 :: c223 :: c224 :: c225 :: c226 :: c227 :: c228 :: c229 :: c230 :: c231 :: c232 :: c233 :: c234 :: c235 :: c236 :: c237 :: c238 :: c239 :: c240 :: c241 :: c242 :: c243 :: c244 :: c245 :: c246 :: c247 :: c248 :: c249 :: c250 :: c251 :: c252 :: c253 :: c254 :: c255 :: c256 :: c257 :: c258 :: c259 :: c260 :: c261 :: c262 :: c263 :: c264 :: c265 :: c266 :: c267 :: c268 :: c269 :: c270 :: c271 :: c272 :: c273 :: c274 :: c275 :: c276 :: c277 :: [])), []⟩ wS := by
  have HEX := Lib.hid hexit
  clear hexit
  conv => arg 2; arg 1; whnf
  go_loopw [9, 17, 18, 19] (fun ub ul uw i wr => ∃ k : Nat, k ≤ q1.ws.length ∧ i = .int .i64 k ∧ Row wr BB 39 3 ub (fgtAll LB (backs q1 (q1.ws.take k))).length (flat (fgtAll LB (backs q1 (q1.ws.take k)))) ∧ Row wr wS.heap.size 39 3 ul (lefts q1 (q1.ws.take k)).length (flat (lefts q1 (q1.ws.take k))) ∧ Own wr wS.heap.size uw (addrs (lefts q1 (q1.ws.take k))) ∧ Hid (∀ i, ub.ownBlock = some i → ul.ownBlock ≠ some i) ∧ Below wS.heap.size wS wr) (fun _ _ _ i _ => q1.ws.length - (intOf i).toNat)
  case atStart => exact ⟨0, Nat.zero_le _, rfl, HBS.out, World.ownsRow_nil _ _ _ _, Own.nil _ _, (fun i _ h => by cases h), Below.refl _ _⟩
  case round =>
    obtain ⟨k, hk, rfl, hbr, hlr, hwr, hap, hbel⟩ := hrel
    have hsz := hbel.size
    have HBL := Lib.hid hbel
    by_cases hlt : k < q1.ws.length
    · obtain ⟨bb, off, rfl, hb, hcell⟩ := Rd.elem (Rd.below (Row.rd HLS.out) hbel) hlt
      have hat := fun i hi => (hcell i hi).trans (flat_at q1.ws k hlt i hi)
      have hX : LX wr bb off k q1.ws[k] := ⟨by have := hat 0 (by decide); simpa [lCells] using this, by have := hat 1 (by decide); simpa [lCells] using this, by have := hat 2 (by decide); simpa [lCells] using this, hb⟩
      have hbs := Lib.hid (backs_snoc (q := q1) hlt)
      have hls := Lib.hid (lefts_snoc (q := q1) hlt)
      have hbl := Lib.hid (backs_le q1 (q1.ws.take k))
      have hll := Lib.hid (lefts_le q1 (q1.ws.take k))
      have hfl := Lib.hid (fgtAll_le (backs q1 (q1.ws.take k)) LB)
      obtain ⟨x, hx⟩ : ∃ x, q1.ws[k] = x := ⟨_, rfl⟩
      rw [hx] at hX hbs hls
      obtain ⟨LB2, hLB2⟩ : ∃ L, fgtAll LB (backs q1 (q1.ws.take k)) = L := ⟨_, rfl⟩
      rw [hLB2] at hbr hfl
      have HLB2 := Lib.hid hLB2
      obtain ⟨w3, hw3⟩ : ∃ w3 : World, w3 = wr := ⟨_, rfl⟩
      subst hw3
      have HX3 := Lib.hid hX
      have HV3 := Lib.hid (HVS.out.below hbel)
      have HMT := Lib.hid (met_of_to (q := q1) (x := x) hm4 HO1.out)
      have Hbr := Lib.hid hbr
      have Hlr := Lib.hid hlr
      have Hwr := Lib.hid hwr
      clear hcell hat hx hbel hX hLB2 hbr hlr hwr
      go_wp2_with fail
      refine met_loop (q1 := q1) (x := x) (hm4 := hm4) (hkl := hlt) (hc101 := hc101) (hc103 := hc103) (HX3 := HX3) (HV3 := HV3) (HMT := HMT) ?_
      intro u21 u22 u23 u175 u176 u177 u178 u179 u180 u181 u182 u183 u184 u185 u186 u187 u188 u189 u190 u191 u192 u193 u194 u195 u196 u197 u198 u199 u200 u201 u202 u203 u204 u205 u206 u207 u208 u209 u210 u211 u212 u213 u214 u215 u216 u217 u218 u219 u220 u221 u222 u223 u224 u225 u226 u227 u228 u229 wr hB
      have HB := Lib.hid hB
      have HX := Lib.hid (show LX wr bb off k x from HX3.out.below hB)
      clear hB
      have HBW := Lib.hid (HBL.out.trans (HB.out.mono hsz))
      have Hbr2 := Lib.hid (Row.below Hbr.out HB.out)
      have Hlr2 := Lib.hid (Row.below Hlr.out HB.out)
      have Hwr2 := Lib.hid (Row.below Hwr.out HB.out)
      have szr := HBW.out.size
      obtain ⟨x0, x1, x2, xl⟩ := HX.out
      cases hmx : q1.met x with
      | true =>
        have HKB := Lib.hid (show backs q1 (q1.ws.take (k + 1)) = backs q1 (q1.ws.take k) by rw [hbs.out, if_pos hmx])
        have HKL := Lib.hid (show lefts q1 (q1.ws.take (k + 1)) = lefts q1 (q1.ws.take k) ++ [x] by rw [hls.out, if_pos hmx])
        clear hmx
        go_wp2_with (at_builtin; refine wpList_app rfl (.tmp 231) (.tmp 236) rfl Try.underlying29 info39 rfl (by decide) (by decide) wS.heap.size u17 _ _ wr.heap.size (lCells x) rfl (World.ownsRow.alloc Hlr2.out _) rfl (Blk.new wr 39 (lCells x)) rfl (lCells_one x) (by simp; omega) (by have := hll.out; simp at this; omega) ?_)
        intro v1 w4 ho1 hk1 hm1
        have bA : Below wr.heap.size wr (wr.alloc (.cells (lCells x).toArray 39)) := (Below.refl _ _).alloc (Nat.le_refl _) _
        have b4 : Below wS.heap.size wr w4 := (bA.mono szr).trans (hk1.below (by simp; omega) (fun i hi => (Row.at_lt Hlr2.out hi).1))
        have HLr4 := Lib.hid (show Row w4 wS.heap.size 39 3 v1 (lefts q1 (q1.ws.take (k + 1))).length (flat (lefts q1 (q1.ws.take (k + 1)))) by rw [HKL.out, flat_app]; simpa [flat] using ho1)
        have HBr4 := Lib.hid (show Row w4 BB 39 3 u9 LB2.length (flat LB2) from Row.keep (World.ownsRow.alloc Hbr2.out _) hk1 (fun i hi hs => hap.out i hi hs))
        have HWr4 := Lib.hid (show Own w4 wS.heap.size u18 (addrs (lefts q1 (q1.ws.take k))) from Row.keep (World.ownsRow.alloc Hwr2.out _) hk1 (fun i hi hs => Row.ne_row Hwr2.out Hlr2.out (by decide) hi hs))
        have HAP4 := Lib.hid (show ∀ i, u9.ownBlock = some i → v1.ownBlock ≠ some i from fun i hi h1 => by
          rcases hm1 i h1 with e | e
          · exact hap.out i hi e
          · have := (Row.at_lt Hbr2.out hi).2; (try simp at e); omega)
        have HB4 := Lib.hid (HBW.out.trans b4)
        have s4 := HB4.out.size
        have y0 := (b4.cell (p := ⟨bb, off + k * 3, none⟩) (Row.at_lt HLS.out rfl).2).trans x0
        have yl : bb < w4.heap.size := by have := (Row.at_lt HLS.out (g := bb) rfl).2; omega
        clear ho1 hk1 hm1 bA b4 x0 x1 x2
        go_wp2_with (at_builtin; refine wpList_append_int rfl (.tmp 238) (.tmp 244) rfl Try.underlying32 info3 wS.heap.size u18 (addrs (lefts q1 (q1.ws.take k))) _ _ rfl HWr4.out rfl ?c1 s4 (by have := hll.out; simp [addrs] at this ⊢; omega) ?_)
        case c1 => rfl
        intro v2 w5 ho2 hk2 hm2
        have HWr5 := Lib.hid (show Own w5 wS.heap.size v2 (addrs (lefts q1 (q1.ws.take (k + 1)))) by rw [HKL.out, show addrs (lefts q1 (q1.ws.take k) ++ [x]) = addrs (lefts q1 (q1.ws.take k)) ++ [x.a] by simp [addrs]]; exact ho2)
        have HLr5 := Lib.hid (Row.keep HLr4.out hk2 (fun i hi hs => Row.ne_row HLr4.out HWr4.out (by decide) hi hs))
        have HBr5 := Lib.hid (show Row w5 BB 39 3 u9 (fgtAll LB (backs q1 (q1.ws.take (k + 1)))).length (flat (fgtAll LB (backs q1 (q1.ws.take (k + 1))))) by rw [HKB.out, HLB2.out]; exact Row.keep HBr4.out hk2 (fun i hi hs => Row.ne_row HBr4.out HWr4.out (by decide) hi hs))
        have HB5 := Lib.hid (HB4.out.trans (hk2.below s4 (fun i hi => (Row.at_lt HWr4.out hi).1)))
        clear ho2 hk2 hm2 y0
        go_wp2
        go_roundw
        case measure => simp [intOf]; omega
        case rel => exact ⟨k + 1, by omega, by go_num, HBr5.out, HLr5.out, HWr5.out, HAP4.out, HB5.out⟩
      | false =>
        have HKB := Lib.hid (show backs q1 (q1.ws.take (k + 1)) = backs q1 (q1.ws.take k) ++ [x.a] by rw [hbs.out, if_neg (by simp [hmx])])
        have HKL := Lib.hid (show lefts q1 (q1.ws.take (k + 1)) = lefts q1 (q1.ws.take k) by rw [hls.out, if_neg (by simp [hmx])])
        clear hmx x0 x1 x2
        obtain ⟨w6, hw6⟩ : ∃ w6 : World, w6 = wr := ⟨_, rfl⟩
        subst hw6
        obtain ⟨A9, c9, hu9, hc91, hc92⟩ := Row.shape Hbr2.out
        subst hu9
        have hc93 : c9 ≤ 9223372036854775807 := by simpa [maxLen] using hc92
        clear hc92
        go_wp2_with fail
        refine filter_loop (LB2 := LB2) (x := x) (hkl := hlt) (hc101 := hc101) (hc103 := hc103) (hc91 := hc91) (hc93 := hc93) (hLl := by have := hfl.out; omega) (HX := HX) (Hbr2 := Hbr2) ?_
        intro u24 u25 u246 u247 u248 u249 u250 u251 u252 u253 u254 u255 u256 u257 u258 u259 u260 u261 u262 u263 u264 u265 u266 u267 u268 u269 w7 hsr hb7
        have HB7 := Lib.hid hb7
        have HSR := Lib.hid (show Row w7 BB 39 3 u24 (fgtAll LB (backs q1 (q1.ws.take (k + 1)))).length (flat (fgtAll LB (backs q1 (q1.ws.take (k + 1))))) by rw [HKB.out, fgtAll_snoc, HLB2.out]; exact Row.mono hsr (by omega))
        have HAP := Lib.hid (show ∀ i, u24.ownBlock = some i → u17.ownBlock ≠ some i from fun i hi h1 => by
          have e1 := (Row.at_lt hsr hi).1
          have e2 := (Row.at_lt Hlr2.out h1).2
          omega)
        have HLR := Lib.hid (show Row w7 wS.heap.size 39 3 u17 (lefts q1 (q1.ws.take (k + 1))).length (flat (lefts q1 (q1.ws.take (k + 1)))) by rw [HKL.out]; exact Row.below Hlr2.out HB7.out)
        have HWR := Lib.hid (show Own w7 wS.heap.size u18 (addrs (lefts q1 (q1.ws.take (k + 1)))) by rw [HKL.out]; exact Row.below Hwr2.out HB7.out)
        clear hsr hb7
        go_wp2
        go_roundw
        case measure => simp [intOf]; omega
        case rel => exact ⟨k + 1, by omega, by go_num, HSR.out, HLR.out, HWR.out, HAP.out, HBW.out.trans (HB7.out.mono szr)⟩
    · have hkn : k = q1.ws.length := by omega
      rw [hkn, List.take_length] at hbr hlr hwr
      have Hbr := Lib.hid hbr
      have Hlr := Lib.hid hlr
      have Hwr := Lib.hid hwr
      clear hkn hbr hlr hwr hbel
      go_wp2
      exact HEX.out _ _ _ _ _ _ _ _ _ _ _ _ _ _ _ _ _ _ _ _ _ _ _ _ _ _ _ _ _ _ _ _ _ _ _ _ _ _ _ _ _ _ _ _ _ _ _ _ _ _ _ _ _ _ _ _ _ _ _ _ _ _ _ _ _ _ _ _ _ _ _ _ _ _ _ _ _ _ _ _ _ _ _ _ _ _ _ _ _ _ _ _ _ _ _ _ _ _ _ _ _ _ _ _ _ _ _ _ _ _ _ _ _ Hbr.out Hlr.out Hwr.out hap.out HBL.out
end Go.Proofs.Ytiokifkppfegfaa
