/-
  The walk of the law of the intervals: a loop as a declaration of its own.
-/
import Derived.Test.YtiokifkppfegfaaMeetsA
import Derived.Deep.CutRange
import Derived.Deep.CutBlock
set_option linter.unusedVariables false
set_option linter.unusedSimpArgs false
namespace Go.Proofs.Ytiokifkppfegfaa
open Go.RowKit Mem Qm
set_option maxRecDepth 100000
set_option maxHeartbeats 4000000 in
theorem filter_loop {w6 : World} {BB bb off nl c_10 k c_9 : Nat} {A9 : Option Addr} {LB2 : List Life} {x : Life} {c0 c1 c2 c3 c4 c5 c6 c7 c8 c11 c12 c13 c14 c15 c16 c17 c18 c20 c21 c22 c23 c26 c27 c28 c29 c30 c31 c32 c33 c34 c35 c36 c37 c38 c39 c40 c41 c42 c43 c44 c45 c46 c47 c48 c49 c50 c51 c52 c53 c54 c55 c56 c57 c58 c59 c60 c61 c62 c63 c64 c65 c66 c67 c68 c69 c70 c71 c72 c73 c74 c75 c76 c77 c78 c79 c80 c81 c82 c83 c84 c85 c86 c87 c88 c89 c90 c91 c92 c93 c94 c95 c96 c97 c98 c99 c100 c101 c102 c103 c104 c105 c106 c107 c108 c109 c110 c111 c112 c113 c114 c115 c116 c117 c118 c119 c120 c121 c122 c123 c124 c125 c126 c127 c128 c129 c130 c131 c132 c133 c134 c135 c136 c137 c138 c139 c140 c141 c142 c143 c144 c145 c146 c147 c148 c149 c150 c151 c152 c153 c154 c155 c156 c157 c158 c159 c160 c161 c162 c163 c164 c165 c166 c167 c168 c169 c170 c171 c172 c173 c174 c175 c176 c177 c178 c179 c180 c181 c182 c183 c184 c185 c186 c187 c188 c189 c190 c191 c192 c193 c194 c195 c196 c197 c198 c199 c200 c201 c202 c203 c204 c205 c206 c207 c208 c209 c210 c211 c212 c213 c214 c215 c216 c217 c218 c219 c220 c221 c222 c223 c224 c225 c226 c227 c228 c229 c230 c231 c232 c233 c234 c235 c236 c237 c238 c239 c240 c241 c242 c243 c244 c245 c246 c247 c248 c249 c250 c251 c252 c253 c254 c255 c256 c257 c258 c259 c260 c261 c262 c263 c264 c265 c266 c267 c268 c269 c270 c271 c272 c273 c274 c275 c276 c277 : Value} {Q0 : Exit → Act → World → Prop} (hkl : k < nl) (hc101 : nl ≤ c_10) (hc103 : c_10 ≤ 9223372036854775807) (hc91 : LB2.length ≤ c_9) (hc93 : c_9 ≤ 9223372036854775807) (hLl : LB2.length < 900000)
    (HX : Hid (LX w6 bb off k x)) (Hbr2 : Hid (Row w6 BB 39 3 (.slice A9 LB2.length c_9) LB2.length (flat LB2)))
    (hexit : ∀ (u24 u25 u246 u247 u248 u249 u250 u251 u252 u253 u254 u255 u256 u257 u258 u259 u260 u261 u262 u263 u264 u265 u266 u267 u268 u269 : Value) (w7 : World), Row w7 w6.heap.size 39 3 u24 (fgt LB2 x.a).length (flat (fgt LB2 x.a)) → Below w6.heap.size w6 w7 → Q0 (.exit 10) ⟨(List.toArray (c0 :: c1 :: c2 :: c3 :: c4 :: c5 :: c6 :: c7 :: c8 :: (.slice A9 LB2.length c_9) :: (.slice (some ⟨bb, off, none⟩) nl c_10) :: c11 :: c12 :: c13 :: c14 :: c15 :: c16 :: c17 :: c18 :: (.int .i64 (k : Int)) :: c20 :: c21 :: c22 :: c23 :: u24 :: u25 :: c26 :: c27 :: c28 :: c29 :: c30 :: c31 :: c32 :: c33 :: c34 :: c35 :: c36 :: c37 :: c38 :: c39 :: c40 :: c41 :: c42 :: c43 :: c44 :: c45 :: c46 :: c47 :: c48 :: c49 :: c50 :: c51 :: c52 :: c53 :: c54 :: c55 :: c56 :: c57 :: c58 :: c59 :: c60 :: c61 :: c62 :: c63 :: c64 :: c65 :: c66 :: c67 :: c68 :: c69 :: c70 :: c71 :: c72 :: c73 :: c74 :: c75 :: c76 :: c77 :: c78 :: c79 :: c80 :: c81 :: c82 :: c83 :: c84 :: c85 :: c86 :: c87 :: c88 :: c89 :: c90 :: c91 :: c92 :: c93 :: c94 :: c95 :: c96 :: c97 :: c98 :: c99 :: c100 :: c101 :: c102 :: c103 :: c104 :: c105 :: c106 :: c107 :: c108 :: c109 :: c110 :: c111 :: c112 :: c113 :: c114 :: c115 :: c116 :: c117 :: c118 :: c119 :: c120 :: c121 :: c122 :: c123 :: c124 :: c125 :: c126 :: c127 :: c128 :: c129 :: c130 :: c131 :: c132 :: c133 :: c134 :: c135 :: c136 :: c137 :: c138 :: c139 :: c140 :: c141 :: c142 :: c143 :: c144 :: c145 :: c146 :: c147 :: c148 :: c149 :: c150 :: c151 :: c152 :: c153 :: c154 :: c155 :: c156 :: c157 :: c158 :: c159 :: c160 :: c161 :: c162 :: c163 :: c164 :: c165 :: c166 :: c167 :: c168 :: c169 :: c170 :: c171 :: c172 :: c173 :: c174 :: c175 :: c176 :: c177 :: c178 :: c179 :: c180 :: c181 :: c182 :: c183 :: c184 :: c185 :: c186 :: c187 :: c188 :: c189 :: c190 :: c191 :: c192 :: c193 :: c194 :: c195 :: c196 :: c197 :: c198 :: c199 :: c200 :: c201 :: c202 :: c203 :: c204 :: c205 :: c206 :: c207 :: c208 :: c209 :: c210 :: c211 :: c212 :: c213 :: c214 :: c215 :: c216 :: c217 :: c218 :: c219 :: c220 :: c221 :: c222 :: c223 :: c224 :: c225 :: c226 :: c227 :: c228 :: c229 :: c230 :: c231 :: c232 :: c233 :: c234 :: c235 :: c236 :: c237 :: c238 :: c239 :: c240 :: c241 :: c242 :: c243 :: c244 :: c245 :: u246 :: u247 :: u248 :: u249 :: u250 :: u251 :: u252 :: u253 :: u254 :: u255 :: u256 :: u257 :: u258 :: u259 :: u260 :: u261 :: u262 :: u263 :: u264 :: u265 :: u266 :: u267 :: u268 :: u269 :: c270 :: c271 :: c272 :: c273 :: c274 :: c275 :: c276 :: c277 :: [])), []⟩ w7) :
    Code.wp Try.prog (Code.loop (loopBody 5)) Q0 ⟨(List.toArray (c0 :: c1 :: c2 :: c3 :: c4 :: c5 :: c6 :: c7 :: c8 :: (.slice A9 LB2.length c_9) :: (.slice (some ⟨bb, off, none⟩) nl c_10) :: c11 :: c12 :: c13 :: c14 :: c15 :: c16 :: c17 :: c18 :: (.int .i64 (k : Int)) :: c20 :: c21 :: c22 :: c23 :: (.slice none 0 0) :: (.int .i64 0) :: c26 :: c27 :: c28 :: c29 :: c30 :: c31 :: c32 :: c33 :: c34 :: c35 :: c36 :: c37 :: c38 :: c39 :: c40 :: c41 :: c42 :: c43 :: c44 :: c45 :: c46 :: c47 :: c48 :: c49 :: c50 :: c51 :: c52 :: c53 :: c54 :: c55 :: c56 :: c57 :: c58 :: c59 :: c60 :: c61 :: c62 :: c63 :: c64 :: c65 :: c66 :: c67 :: c68 :: c69 :: c70 :: c71 :: c72 :: c73 :: c74 :: c75 :: c76 :: c77 :: c78 :: c79 :: c80 :: c81 :: c82 :: c83 :: c84 :: c85 :: c86 :: c87 :: c88 :: c89 :: c90 :: c91 :: c92 :: c93 :: c94 :: c95 :: c96 :: c97 :: c98 :: c99 :: c100 :: c101 :: c102 :: c103 :: c104 :: c105 :: c106 :: c107 :: c108 :: c109 :: c110 :: c111 :: c112 :: c113 :: c114 :: c115 :: c116 :: c117 :: c118 :: c119 :: c120 :: c121 :: c122 :: c123 :: c124 :: c125 :: c126 :: c127 :: c128 :: c129 :: c130 :: c131 :: c132 :: c133 :: c134 :: c135 :: c136 :: c137 :: c138 :: c139 :: c140 :: c141 :: c142 :: c143 :: c144 :: c145 :: c146 :: c147 :: c148 :: c149 :: c150 :: c151 :: c152 :: c153 :: c154 :: c155 :: c156 :: c157 :: c158 :: c159 :: c160 :: c161 :: c162 :: c163 :: c164 :: c165 :: c166 :: c167 :: c168 :: c169 :: c170 :: c171 :: c172 :: c173 :: c174 :: c175 :: c176 :: c177 :: c178 :: c179 :: c180 :: c181 :: c182 :: c183 :: c184 :: c185 :: c186 :: c187 :: c188 :: c189 :: c190 :: c191 :: c192 :: c193 :: c194 :: c195 :: c196 :: c197 :: c198 :: c199 :: c200 :: c201 :: c202 :: c203 :: c204 :: c205 :: c206 :: c207 :: c208 :: c209 :: c210 :: c211 :: c212 :: c213 :: c214 :: c215 :: c216 :: c217 :: c218 :: c219 :: c220 :: c221 :: c222 :: c223 :: c224 :: c225 :: c226 :: c227 :: c228 :: c229 :: c230 :: c231 :: c232 :: c233 :: c234 :: c235 :: c236 :: c237 :: c238 :: c239 :: c240 :: c241 :: c242 :: c243 :: c244 :: c245 :: c246 :: c247 :: c248 :: c249 :: c250 :: c251 :: c252 :: c253 :: c254 :: c255 :: c256 :: c257 :: c258 :: c259 :: c260 :: c261 :: c262 :: c263 :: c264 :: c265 :: c266 :: c267 :: c268 :: c269 :: c270 :: c271 :: c272 :: c273 :: c274 :: c275 :: c276 :: c277 :: [])), []⟩ w6 := by
  have HEX := Lib.hid hexit
  clear hexit
  conv => arg 2; arg 1; whnf
  go_loopw [24, 25] (fun us i wr => ∃ j : Nat, j ≤ LB2.length ∧ i = .int .i64 j ∧ Row wr w6.heap.size 39 3 us (fgt (LB2.take j) x.a).length (flat (fgt (LB2.take j) x.a)) ∧ Below w6.heap.size w6 wr) (fun _ i _ => LB2.length - (intOf i).toNat)
  case atStart => exact ⟨0, Nat.zero_le _, rfl, World.ownsRow_nil _ _ _ _, Below.refl _ _⟩
  case round =>
    obtain ⟨j, hj, rfl, hsr, hb7⟩ := hrel
    have sz7 := hb7.size
    have HB7 := Lib.hid hb7
    have HX7 := HX.out.below hb7
    obtain ⟨z0, z1, z2, zl⟩ := HX7
    by_cases hjl : j < LB2.length
    · obtain ⟨b9, o9, rfl, hb9, hc9⟩ := Rd.elem (Rd.below (Row.rd Hbr2.out) hb7) hjl
      have hat := fun i hi => (hc9 i hi).trans (flat_at LB2 j hjl i hi)
      have p0 := hat 0 (by decide)
      have p1 := hat 1 (by decide)
      have p2 := hat 2 (by decide)
      simp only [lCells, List.getElem?_cons_zero, List.getElem?_cons_succ, Nat.add_zero] at p0 p1 p2
      have hfs := Lib.hid (fgt_snoc hjl x.a)
      have hfe := Lib.hid (fgt_le (LB2.take j) x.a)
      obtain ⟨y, hy⟩ : ∃ y, LB2[j] = y := ⟨_, rfl⟩
      rw [hy] at p0 p1 p2 hfs
      clear hc9 hat hy hb7
      by_cases hya : y.a = x.a
      · have e1 : (y.a == x.a) = true := beq_iff_eq.2 hya
        have e2 : (y.a != x.a) = false := by simp [hya]
        have HY := Lib.hid (show fgt (LB2.take (j + 1)) x.a = fgt (LB2.take j) x.a by rw [hfs.out, if_pos hya])
        clear hya
        have Hsr := Lib.hid hsr
        clear hsr
        go_wp2_with fail
        go_quiet (fail)
        go_wp2
        go_roundw
        case measure => simp [intOf]; omega
        case rel => exact ⟨j + 1, by omega, by go_num, by rw [HY.out]; exact Hsr.out, HB7.out.drewN _⟩
      · have e1 : (y.a == x.a) = false := beq_eq_false_iff_ne.2 hya
        have e2 : (y.a != x.a) = true := by simp [hya]
        have HY := Lib.hid (show fgt (LB2.take (j + 1)) x.a = fgt (LB2.take j) x.a ++ [y] by rw [hfs.out, if_neg hya])
        clear hya
        have Hsr := Lib.hid hsr
        clear hsr
        go_wp2_with fail
        go_quiet (fail)
        go_wp2_with (at_builtin; refine wpList_app rfl (.tmp 263) (.tmp 268) rfl Try.underlying29 info39 rfl (by decide) (by decide) w6.heap.size u24 _ _ _ (lCells y) rfl (World.ownsRow.alloc (w := wr.drewN _) Hsr.out _) rfl (Blk.new (wr.drewN _) 39 (lCells y)) rfl (lCells_one y) (by simp; omega) (by have := hfe.out; simp at this; omega) ?_)
        intro v1 w8 ho1 hk1 hm1
        have bA : Below wr.heap.size wr ((wr.drewN nq).alloc (.cells (lCells y).toArray 39)) := ((Below.refl _ _).drewN _).alloc (Nat.le_refl _) _
        have HB8 := Lib.hid (HB7.out.trans ((bA.mono sz7).trans (hk1.below (by simp; omega) (fun i hi => (Row.at_lt Hsr.out hi).1))))
        have HSR8 := Lib.hid (show Row w8 w6.heap.size 39 3 v1 (fgt (LB2.take (j + 1)) x.a).length (flat (fgt (LB2.take (j + 1)) x.a)) by rw [HY.out, flat_app]; simpa [flat] using ho1)
        clear ho1 hk1 hm1 bA
        go_wp2
        go_roundw
        case measure => simp [intOf]; omega
        case rel => exact ⟨j + 1, by omega, by go_num, HSR8.out, HB8.out⟩
    · have hje : j = LB2.length := by omega
      rw [hje, List.take_length] at hsr
      have Hsr := Lib.hid hsr
      clear hje hsr hb7
      go_wp2
      exact HEX.out _ _ _ _ _ _ _ _ _ _ _ _ _ _ _ _ _ _ _ _ _ _ _ _ _ _ _ Hsr.out HB7.out
end Go.Proofs.Ytiokifkppfegfaa
