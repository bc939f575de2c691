/-
  The walk of the law of the intervals: a loop as a declaration of its own.
-/
import Derived.Test.YtiokifkppfegfaaMeetsC
import Derived.Deep.CutRange
import Derived.Deep.CutBlock
set_option linter.unusedVariables false
set_option linter.unusedSimpArgs false
namespace Go.Proofs.Ytiokifkppfegfaa
open Go.RowKit Mem Qm
set_option maxRecDepth 100000
def deedBlock : Code → Code
  | .seq _ (.seq b _) => b
  | _ => .skip
set_option maxHeartbeats 4000000 in
theorem deed_round {w w1 wr : World} {A : Option Addr} {c_1 K m : Nat} {ds : List Deed} {q : Q} {v u9 u10 : Value} {LB : List Life} {c2 c3 c4 c6 c12 c13 c14 c15 c16 c17 c18 c19 c20 c21 c22 c23 c24 c25 c26 c27 c28 c29 c30 c31 c32 c33 c34 c35 c36 c37 c38 c39 c40 c41 c42 c43 c44 c45 c46 c47 c48 c49 c50 c51 c52 c53 c54 c55 c56 c57 c58 c59 c60 c61 c62 c63 c64 c65 c66 c67 c68 c69 c70 c71 c72 c73 c74 c75 c76 c77 c78 c79 c80 c81 c82 c83 c84 c85 c86 c87 c88 c89 c90 c91 c92 c93 c94 c95 c96 c97 c98 c99 c100 c101 c102 c103 c104 c105 c106 c107 c108 c109 c110 c111 c112 c113 c114 c115 c116 c117 c118 c119 c120 c121 c122 c123 c124 c125 c126 c127 c128 c129 c130 c131 c132 c133 c134 c135 c136 c137 c138 c139 c140 c141 c142 c143 c144 c145 c146 c147 c148 c149 c150 c151 c152 c153 c154 c155 c156 c157 c158 c159 c160 c161 c162 c163 c164 c165 c166 c167 c168 c169 c170 c171 c172 c173 c174 c175 c176 c177 c178 c179 c180 c181 c182 c183 c184 c185 c186 c187 c188 c189 c190 c191 c192 c193 c194 c195 c196 c197 c198 c199 c200 c201 c202 c203 c204 c205 c206 c207 c208 c209 c210 c211 c212 c213 c214 c215 c216 c217 c218 c219 c220 c221 c222 c223 c224 c225 c226 c227 c228 c229 c230 c231 c232 c233 c234 c235 c236 c237 c238 c239 c240 c241 c242 c243 c244 c245 c246 c247 c248 c249 c250 c251 c252 c253 c254 c255 c256 c257 c258 c259 c260 c261 c262 c263 c264 c265 c266 c267 c268 c269 c270 c271 c272 c273 c274 c275 c276 c277 : Value} {Q0 : Exit → Act → World → Prop} (hm1 : 1 ≤ m) (hm4 : m ≤ 4) (hl : ds.length ≤ 200) (hltK : K < ds.length) (hc1 : ds.length ≤ c_1) (hc2 : c_1 ≤ 9223372036854775807)
    (Hd : Hid (RdD w (.slice A ds.length c_1) ds)) (HI : Hid (IsS wr w.heap.size (w.heap.size + 1) w.heap.size v q)) (HMI : Hid (Mi wr w.heap.size w1.heap.size u9 u10 m q LB)) (HK : Hid (Kn q LB K)) (HB0 : Hid (Below w.heap.size w wr))
    (hexit : ∀ (v' : Value) (q' : Q) (LB' : List Life) (u9 u10 u12 u13 u14 u15 u16 u17 u18 u19 u20 u21 u22 u23 u24 u25 u46 u47 u48 u49 u50 u51 u52 u53 u54 u55 u56 u57 u58 u59 u60 u61 u62 u63 u64 u65 u66 u67 u68 u69 u70 u71 u72 u73 u74 u75 u76 u77 u78 u79 u80 u81 u82 u83 u84 u85 u86 u87 u88 u89 u90 u91 u92 u93 u94 u95 u96 u97 u98 u99 u100 u101 u102 u103 u104 u105 u106 u107 u108 u109 u110 u111 u112 u113 u114 u115 u116 u117 u118 u119 u120 u121 u122 u123 u124 u125 u126 u127 u128 u129 u130 u131 u132 u133 u134 u135 u136 u137 u138 u139 u140 u141 u142 u143 u144 u145 u146 u147 u148 u149 u150 u151 u152 u153 u154 u155 u156 u157 u158 u159 u160 u161 u162 u163 u164 u165 u166 u167 u168 u169 u170 u171 u172 u173 u174 u175 u176 u177 u178 u179 u180 u181 u182 u183 u184 u185 u186 u187 u188 u189 u190 u191 u192 u193 u194 u195 u196 u197 u198 u199 u200 u201 u202 u203 u204 u205 u206 u207 u208 u209 u210 u211 u212 u213 u214 u215 u216 u217 u218 u219 u220 u221 u222 u223 u224 u225 u226 u227 u228 u229 u230 u231 u232 u233 u234 u235 u236 u237 u238 u239 u240 u241 u242 u243 u244 u245 u246 u247 u248 u249 u250 u251 u252 u253 u254 u255 u256 u257 u258 u259 u260 u261 u262 u263 u264 u265 u266 u267 u268 u269 u270 u271 u272 u273 u274 u275 u276 : Value) (wE : World), IsS wE w.heap.size (w.heap.size + 1) w.heap.size v' q' → Mi wE w.heap.size w1.heap.size u9 u10 m q' LB' → Hid (Kn q' LB' (K + 1)) → Below w.heap.size w wE → Q0 .normal ⟨(List.toArray ((.int .i64 (m : Int)) :: (.slice A ds.length c_1) :: c2 :: c3 :: c4 :: (.pointer (some ⟨w.heap.size + 1, 0, none⟩)) :: c6 :: (.slice (some ⟨w1.heap.size, 0, none⟩) m m) :: (.int .i64 q'.era) :: u9 :: u10 :: (.int .i64 (K : Int)) :: u12 :: u13 :: u14 :: u15 :: u16 :: u17 :: u18 :: u19 :: u20 :: u21 :: u22 :: u23 :: u24 :: u25 :: c26 :: c27 :: c28 :: c29 :: c30 :: c31 :: c32 :: c33 :: c34 :: c35 :: c36 :: c37 :: c38 :: c39 :: c40 :: c41 :: c42 :: c43 :: c44 :: c45 :: u46 :: u47 :: u48 :: u49 :: u50 :: u51 :: u52 :: u53 :: u54 :: u55 :: u56 :: u57 :: u58 :: u59 :: u60 :: u61 :: u62 :: u63 :: u64 :: u65 :: u66 :: u67 :: u68 :: u69 :: u70 :: u71 :: u72 :: u73 :: u74 :: u75 :: u76 :: u77 :: u78 :: u79 :: u80 :: u81 :: u82 :: u83 :: u84 :: u85 :: u86 :: u87 :: u88 :: u89 :: u90 :: u91 :: u92 :: u93 :: u94 :: u95 :: u96 :: u97 :: u98 :: u99 :: u100 :: u101 :: u102 :: u103 :: u104 :: u105 :: u106 :: u107 :: u108 :: u109 :: u110 :: u111 :: u112 :: u113 :: u114 :: u115 :: u116 :: u117 :: u118 :: u119 :: u120 :: u121 :: u122 :: u123 :: u124 :: u125 :: u126 :: u127 :: u128 :: u129 :: u130 :: u131 :: u132 :: u133 :: u134 :: u135 :: u136 :: u137 :: u138 :: u139 :: u140 :: u141 :: u142 :: u143 :: u144 :: u145 :: u146 :: u147 :: u148 :: u149 :: u150 :: u151 :: u152 :: u153 :: u154 :: u155 :: u156 :: u157 :: u158 :: u159 :: u160 :: u161 :: u162 :: u163 :: u164 :: u165 :: u166 :: u167 :: u168 :: u169 :: u170 :: u171 :: u172 :: u173 :: u174 :: u175 :: u176 :: u177 :: u178 :: u179 :: u180 :: u181 :: u182 :: u183 :: u184 :: u185 :: u186 :: u187 :: u188 :: u189 :: u190 :: u191 :: u192 :: u193 :: u194 :: u195 :: u196 :: u197 :: u198 :: u199 :: u200 :: u201 :: u202 :: u203 :: u204 :: u205 :: u206 :: u207 :: u208 :: u209 :: u210 :: u211 :: u212 :: u213 :: u214 :: u215 :: u216 :: u217 :: u218 :: u219 :: u220 :: u221 :: u222 :: u223 :: u224 :: u225 :: u226 :: u227 :: u228 :: u229 :: u230 :: u231 :: u232 :: u233 :: u234 :: u235 :: u236 :: u237 :: u238 :: u239 :: u240 :: u241 :: u242 :: u243 :: u244 :: u245 :: u246 :: u247 :: u248 :: u249 :: u250 :: u251 :: u252 :: u253 :: u254 :: u255 :: u256 :: u257 :: u258 :: u259 :: u260 :: u261 :: u262 :: u263 :: u264 :: u265 :: u266 :: u267 :: u268 :: u269 :: u270 :: u271 :: u272 :: u273 :: u274 :: u275 :: u276 :: c277 :: [])), []⟩ wE) :
    Code.wp Try.prog (deedBlock (loopBody 0)) Q0 ⟨(List.toArray ((.int .i64 (m : Int)) :: (.slice A ds.length c_1) :: c2 :: c3 :: c4 :: (.pointer (some ⟨w.heap.size + 1, 0, none⟩)) :: c6 :: (.slice (some ⟨w1.heap.size, 0, none⟩) m m) :: (.int .i64 q.era) :: (u9) :: (u10) :: (.int .i64 (K : Int)) :: c12 :: c13 :: c14 :: c15 :: c16 :: c17 :: c18 :: c19 :: c20 :: c21 :: c22 :: c23 :: c24 :: c25 :: c26 :: c27 :: c28 :: c29 :: c30 :: c31 :: c32 :: c33 :: c34 :: c35 :: c36 :: c37 :: c38 :: c39 :: c40 :: c41 :: c42 :: c43 :: c44 :: c45 :: c46 :: c47 :: c48 :: c49 :: c50 :: c51 :: c52 :: c53 :: c54 :: c55 :: c56 :: c57 :: c58 :: c59 :: c60 :: c61 :: c62 :: c63 :: c64 :: c65 :: c66 :: c67 :: c68 :: c69 :: c70 :: c71 :: c72 :: c73 :: c74 :: c75 :: c76 :: c77 :: c78 :: c79 :: c80 :: c81 :: c82 :: c83 :: c84 :: c85 :: c86 :: c87 :: c88 :: c89 :: c90 :: c91 :: c92 :: c93 :: c94 :: c95 :: c96 :: c97 :: c98 :: c99 :: c100 :: c101 :: c102 :: c103 :: c104 :: c105 :: c106 :: c107 :: c108 :: c109 :: c110 :: c111 :: c112 :: c113 :: c114 :: c115 :: c116 :: c117 :: c118 :: c119 :: c120 :: c121 :: c122 :: c123 :: c124 :: c125 :: c126 :: c127 :: c128 :: c129 :: c130 :: c131 :: c132 :: c133 :: c134 :: c135 :: c136 :: c137 :: c138 :: c139 :: c140 :: c141 :: c142 :: c143 :: c144 :: c145 :: c146 :: c147 :: c148 :: c149 :: c150 :: c151 :: c152 :: c153 :: c154 :: c155 :: c156 :: c157 :: c158 :: c159 :: c160 :: c161 :: c162 :: c163 :: c164 :: c165 :: c166 :: c167 :: c168 :: c169 :: c170 :: c171 :: c172 :: c173 :: c174 :: c175 :: c176 :: c177 :: c178 :: c179 :: c180 :: c181 :: c182 :: c183 :: c184 :: c185 :: c186 :: c187 :: c188 :: c189 :: c190 :: c191 :: c192 :: c193 :: c194 :: c195 :: c196 :: c197 :: c198 :: c199 :: c200 :: c201 :: c202 :: c203 :: c204 :: c205 :: c206 :: c207 :: c208 :: c209 :: c210 :: c211 :: c212 :: c213 :: c214 :: c215 :: c216 :: c217 :: c218 :: c219 :: c220 :: c221 :: c222 :: c223 :: c224 :: c225 :: c226 :: c227 :: c228 :: c229 :: c230 :: c231 :: c232 :: c233 :: c234 :: c235 :: c236 :: c237 :: c238 :: c239 :: c240 :: c241 :: c242 :: c243 :: c244 :: c245 :: c246 :: c247 :: c248 :: c249 :: c250 :: c251 :: c252 :: c253 :: c254 :: c255 :: c256 :: c257 :: c258 :: c259 :: c260 :: c261 :: c262 :: c263 :: c264 :: c265 :: c266 :: c267 :: c268 :: c269 :: c270 :: c271 :: c272 :: c273 :: c274 :: c275 :: c276 :: c277 :: [])), []⟩ wr := by
  have HEX := Lib.hid hexit
  have hi := HI.out
  have hmi := HMI.out
  have hbel := HB0.out
  have hsz := hbel.size
  clear hexit HI HMI HB0
  conv => arg 2; whnf
  obtain ⟨b, off, rfl, hb, d0, d1, d2, d3⟩ := RdD.at_ (Hd.out.below hbel) hltK
  have hwd := Hd.out.wf_at hltK
  have HB := Lib.hid hbel
  obtain ⟨D, hD⟩ : ∃ D, ds[K] = D := ⟨_, rfl⟩
  rw [hD] at d0 d1 d2 d3 hwd
  obtain ⟨what, th, ho, ad⟩ := D
  dsimp only at d0 d1 d2 d3 hwd
  have HWD := Lib.hid hwd
  have HGS := Lib.hid (good_step (d := ⟨what, th, ho, ad⟩) HK.out.gd hwd)
  have HIV := Lib.hid (inv_step HK.out.inv ⟨what, th, ho, ad⟩)
  have HOKq := Lib.hid (show q.ok 0 from ⟨Int.le_refl 0, by rw [hmi.nm]; omega⟩)
  have hqw := HK.out.gd.len
  have hLBle := HK.out.len
  have hera0 := HK.out.gd.e0
  have hera1 := HK.out.gd.e1
  have bA : Below wr.heap.size wr (wr.alloc (.cells #[.int .i64 what, .int .i64 th, .int .i64 ho, .int .i64 ad] 31)) := (Below.refl _ _).alloc (Nat.le_refl _) _
  have hx0 := Blk.new wr 31 [.int .i64 what, .int .i64 th, .int .i64 ho, .int .i64 ad]
  have hi1 := hi.below bA
  have hmi1 := hmi.below bA
  have B1 := HB.out.trans (bA.mono hsz)
  have S1 := B1.size
  have HB1 := Lib.hid B1
  have HI1 := Lib.hid hi1
  have HM1 := Lib.hid hmi1
  have HX0 := Lib.hid hx0
  clear hD hwd hbel hi hmi bA hx0 hi1 hmi1 B1
  go_wp2_with fail
  refine (done_did HI1.out HK.out.gd (by omega) S1 ⟨what, th, ho, ad⟩ HWD.out).mono ?_
  rintro e w2 ⟨ua, v', rfl, oa, ia, ka, ma⟩
  have HMI := Lib.hid (HM1.out.keepS HI1.out ka)
  have hxb := blkS_keep HI1.out ka HX0.out (by decide) (by decide)
  have c0 := hxb.cell 0 rfl
  have c1 := hxb.cell 1 rfl
  have c2 := hxb.cell 2 rfl
  have c3 := hxb.cell 3 rfl
  have hxlt := hxb.lt
  have hglt := HMI.out.vis.lt
  have HXB := Lib.hid hxb
  have HB2 := Lib.hid (HB1.out.trans (ka.below S1 HI1.out.foot_lo))
  have S2 := HB2.out.size
  have HIA := Lib.hid ia
  have hgne : wr.heap.size ≠ w1.heap.size := fun e => absurd (hxb.type (e ▸ HMI.out.vis)).1 (by decide)
  clear oa ia ka ma hxb d0 d1 d2 d3
  by_cases he : (stepQ q ⟨what, th, ho, ad⟩).2.2 = 0
  · have HE := Lib.hid he
    rw [HE.out]
    clear he
    by_cases e0 : what = 0
    · subst e0
      obtain ⟨hot, hst⟩ := ok_in (q := q) (d := ⟨0, th, ho, ad⟩) rfl HE.out
      dsimp only at hot hst
      obtain ⟨k0, rfl⟩ : ∃ k : Nat, th = k := ⟨th.toNat, by have := hot.1; omega⟩
      have HOT := Lib.hid hot
      have J := HIA.out
      have HGS2 := HGS.out
      have HIV2 := HIV.out
      rw [hst] at HGS2 HIV2 J
      have HJ := Lib.hid J
      have HKN := Lib.hid (show Kn (q.in_ (k0 : Int)) LB (K + 1) from ⟨HGS2, HIV2, HK.out.lk, by have := HK.out.len; omega⟩)
      clear hot hst J HGS2 HIV2
      have hkm : k0 < m := by have h1 := HOT.out.2; rw [HMI.out.nm] at h1; omega
      have ff : ∀ j, w2.frozen? ⟨w1.heap.size, j, none⟩ = false := fun j => HMI.out.vis.free j
      have hat := fun j (hj : j < 6) => (seenTo_at q hm4 hkm hj)
      have y0 := HMI.out.vis.cell (k0 * 6) (by have := hat 0 (by omega); rw [Nat.add_zero] at this; rw [this]; rfl)
      have y1 := HMI.out.vis.cell (k0 * 6 + 1) (by rw [hat 1 (by omega)]; rfl)
      have y2 := HMI.out.vis.cell (k0 * 6 + 2) (by rw [hat 2 (by omega)]; rfl)
      have y3 := HMI.out.vis.cell (k0 * 6 + 3) (by rw [hat 3 (by omega)]; rfl)
      have y4 := HMI.out.vis.cell (k0 * 6 + 4) (by rw [hat 4 (by omega)]; rfl)
      have y5 := HMI.out.vis.cell (k0 * 6 + 5) (by rw [hat 5 (by omega)]; rfl)
      clear hat
      go_wp2
      have p1 := HMI.out.put hm4 hkm (Sn.in_ q.era)
      have p2 := six_kept w2 w1.heap.size (k0 * 6) (k0 * 6 + 1) (k0 * 6 + 2) (k0 * 6 + 3) (k0 * 6 + 4) (k0 * 6 + 5) (Sn.in_ q.era)
      have p3 := HJ.out.keep p2 (HMI.out.off HJ.out)
      have p4 := HB2.out.trans (p2.below S2 (fun i hi => by rw [hi]; exact HMI.out.gvlo))
      simp only [six, Sn.in_] at p1 p3 p4
      exact HEX.out v' (q.in_ (k0 : Int)) (LB) _ _ _ _ _ _ _ _ _ _ _ _ _ _ _ _ _ _ _ _ _ _ _ _ _ _ _ _ _ _ _ _ _ _ _ _ _ _ _ _ _ _ _ _ _ _ _ _ _ _ _ _ _ _ _ _ _ _ _ _ _ _ _ _ _ _ _ _ _ _ _ _ _ _ _ _ _ _ _ _ _ _ _ _ _ _ _ _ _ _ _ _ _ _ _ _ _ _ _ _ _ _ _ _ _ _ _ _ _ _ _ _ _ _ _ _ _ _ _ _ _ _ _ _ _ _ _ _ _ _ _ _ _ _ _ _ _ _ _ _ _ _ _ _ _ _ _ _ _ _ _ _ _ _ _ _ _ _ _ _ _ _ _ _ _ _ _ _ _ _ _ _ _ _ _ _ _ _ _ _ _ _ _ _ _ _ _ _ _ _ _ _ _ _ _ _ _ _ _ _ _ _ _ _ _ _ _ _ _ _ _ _ _ _ _ _ _ _ _ _ _ _ _ _ _ _ _ _ _ _ _ _ _ _ _ _ _ _ _ _ _ _ _ _ _ _ _ _ (p3) (p1) (HKN.out) (p4)
    by_cases e2 : what = 2
    · subst e2
      obtain ⟨hot4, hst⟩ := ok_hold (q := q) (d := ⟨2, th, ho, ad⟩) rfl HE.out
      dsimp only at hot4 hst
      obtain ⟨hot, ho0, ho3, ad0⟩ := hot4
      obtain ⟨k0, rfl⟩ : ∃ k : Nat, th = k := ⟨th.toNat, by have := hot.1; omega⟩
      obtain ⟨nh, rfl⟩ : ∃ n : Nat, ho = n := ⟨ho.toNat, by omega⟩
      have hn3 : nh < 3 := by omega
      have HOT := Lib.hid hot
      have J := HIA.out
      have HGS2 := HGS.out
      have HIV2 := HIV.out
      rw [hst] at HGS2 HIV2 J
      have hkm : k0 < m := by have h1 := HOT.out.2; rw [HMI.out.nm] at h1; omega
      have ff : ∀ j, w2.frozen? ⟨w1.heap.size, j, none⟩ = false := fun j => HMI.out.vis.free j
      have hat := fun j (hj : j < 6) => (seenTo_at q hm4 hkm hj)
      have y0 := HMI.out.vis.cell (k0 * 6) (by have := hat 0 (by omega); rw [Nat.add_zero] at this; rw [this]; rfl)
      have y1 := HMI.out.vis.cell (k0 * 6 + 1) (by rw [hat 1 (by omega)]; rfl)
      have y2 := HMI.out.vis.cell (k0 * 6 + 2) (by rw [hat 2 (by omega)]; rfl)
      have y3 := HMI.out.vis.cell (k0 * 6 + 3) (by rw [hat 3 (by omega)]; rfl)
      have y4 := HMI.out.vis.cell (k0 * 6 + 4) (by rw [hat 4 (by omega)]; rfl)
      have y5 := HMI.out.vis.cell (k0 * 6 + 5) (by rw [hat 5 (by omega)]; rfl)
      have yn := HMI.out.vis.cell (k0 * 6 + 3 + nh) (by rw [show k0 * 6 + 3 + nh = k0 * 6 + (3 + nh) by omega, hat (3 + nh) (by omega)]; exact hAt_cell _ hn3)
      cases hins : (q.get (k0 : Int)).i with
      | true =>
        have hqh : q.hold (k0 : Int) (nh : Int) ad = q.put (k0 : Int) ((q.get (k0 : Int)).hold q.era (nh : Int) ad) := if_pos hins
        rw [hqh] at HGS2 HIV2 J
        have HJ := Lib.hid J
        have HKN := Lib.hid (show Kn (q.put (k0 : Int) ((q.get (k0 : Int)).hold q.era (nh : Int) ad)) LB (K + 1) from ⟨HGS2, HIV2, HK.out.lk, by omega⟩)
        rw [hins] at y0
        clear hot hst J HGS2 HIV2 hat hqh hins
        go_wp2_with fail
        go_region
        go_wp2
        have kk : Kept w2 ((w2.setCell ⟨w1.heap.size, k0 * 6 + 2, none⟩ (.int .i64 q.era)).setCell ⟨w1.heap.size, k0 * 6 + 3 + nh, none⟩ (.int .i64 ad)) (fun i => i = w1.heap.size) := ((Kept.refl w2 (fun i => i = w1.heap.size)).setCell (p := ⟨w1.heap.size, k0 * 6 + 2, none⟩) (.inl rfl) _).setCell (p := ⟨w1.heap.size, k0 * 6 + 3 + nh, none⟩) (.inl rfl) _
        have hM : Mi ((w2.setCell ⟨w1.heap.size, k0 * 6 + 2, none⟩ (.int .i64 q.era)).setCell ⟨w1.heap.size, k0 * 6 + 3 + nh, none⟩ (.int .i64 ad)) w.heap.size w1.heap.size u9 u10 m (q.put (k0 : Int) ((q.get (k0 : Int)).hold q.era (nh : Int) ad)) LB :=
          ⟨Blk.of ((HMI.out.vis.set _ _).set _ _) (seenTo_hold' q hm4 hkm hn3 q.era ad), Row.keep HMI.out.br kk (fun i hi e => Row.ne_blk HMI.out.br HMI.out.vis (by decide) (e ▸ hi)), Row.keep HMI.out.lr kk (fun i hi e => Row.ne_blk HMI.out.lr HMI.out.vis (by decide) (e ▸ hi)), HMI.out.ap, HMI.out.gvlo, HMI.out.nm⟩
        have p3 := HJ.out.keep kk (HMI.out.off HJ.out)
        have p4 := HB2.out.trans (kk.below S2 (fun i hi => by rw [hi]; exact HMI.out.gvlo))
        exact HEX.out v' (q.put (k0 : Int) ((q.get (k0 : Int)).hold q.era (nh : Int) ad)) (LB) _ _ _ _ _ _ _ _ _ _ _ _ _ _ _ _ _ _ _ _ _ _ _ _ _ _ _ _ _ _ _ _ _ _ _ _ _ _ _ _ _ _ _ _ _ _ _ _ _ _ _ _ _ _ _ _ _ _ _ _ _ _ _ _ _ _ _ _ _ _ _ _ _ _ _ _ _ _ _ _ _ _ _ _ _ _ _ _ _ _ _ _ _ _ _ _ _ _ _ _ _ _ _ _ _ _ _ _ _ _ _ _ _ _ _ _ _ _ _ _ _ _ _ _ _ _ _ _ _ _ _ _ _ _ _ _ _ _ _ _ _ _ _ _ _ _ _ _ _ _ _ _ _ _ _ _ _ _ _ _ _ _ _ _ _ _ _ _ _ _ _ _ _ _ _ _ _ _ _ _ _ _ _ _ _ _ _ _ _ _ _ _ _ _ _ _ _ _ _ _ _ _ _ _ _ _ _ _ _ _ _ _ _ _ _ _ _ _ _ _ _ _ _ _ _ _ _ _ _ _ _ _ _ _ _ _ _ _ _ _ _ _ _ _ _ _ _ _ (drew_is p3) (hM.drew) (HKN.out) (p4.drew)
      | false =>
        have hqh : q.hold (k0 : Int) (nh : Int) ad = q := if_neg (by simp [hins])
        rw [hqh] at HGS2 HIV2 J
        have HJ := Lib.hid J
        have HKN := Lib.hid (show Kn q LB (K + 1) from ⟨HGS2, HIV2, HK.out.lk, by omega⟩)
        rw [hins] at y0
        clear hot hst J HGS2 HIV2 hat hqh hins
        go_wp2
        exact HEX.out v' (q) (LB) _ _ _ _ _ _ _ _ _ _ _ _ _ _ _ _ _ _ _ _ _ _ _ _ _ _ _ _ _ _ _ _ _ _ _ _ _ _ _ _ _ _ _ _ _ _ _ _ _ _ _ _ _ _ _ _ _ _ _ _ _ _ _ _ _ _ _ _ _ _ _ _ _ _ _ _ _ _ _ _ _ _ _ _ _ _ _ _ _ _ _ _ _ _ _ _ _ _ _ _ _ _ _ _ _ _ _ _ _ _ _ _ _ _ _ _ _ _ _ _ _ _ _ _ _ _ _ _ _ _ _ _ _ _ _ _ _ _ _ _ _ _ _ _ _ _ _ _ _ _ _ _ _ _ _ _ _ _ _ _ _ _ _ _ _ _ _ _ _ _ _ _ _ _ _ _ _ _ _ _ _ _ _ _ _ _ _ _ _ _ _ _ _ _ _ _ _ _ _ _ _ _ _ _ _ _ _ _ _ _ _ _ _ _ _ _ _ _ _ _ _ _ _ _ _ _ _ _ _ _ _ _ _ _ _ _ _ _ _ _ _ _ _ _ _ _ _ _ (HJ.out) (HMI.out) (HKN.out) (HB2.out)
    by_cases e3 : what = 3
    · subst e3
      obtain ⟨hpos, hst⟩ := ok_born (q := q) (d := ⟨3, th, ho, ad⟩) rfl HE.out
      dsimp only at hpos hst
      have J := HIA.out
      have HGS2 := HGS.out
      have HIV2 := HIV.out
      rw [hst] at HGS2 HIV2 J
      have HJ := Lib.hid J
      have HKN := Lib.hid (show Kn (q.born ad) (LB ++ [⟨ad, q.era + 1, -1⟩]) (K + 1) from ⟨HGS2, HIV2, fun a => by
        rw [lk_snoc]
        simp only [Q.born, upd, HK.out.lk]
        by_cases h : a = ad
        · rw [if_pos h.symm, if_pos h]
        · rw [if_neg (fun e => h e.symm), if_neg h], by simp; omega⟩)
      clear hst J HGS2 HIV2
      go_wp2_with (at_builtin; refine wpList_app rfl (.tmp 118) (.tmp 123) rfl Try.underlying29 info39 rfl (by decide) (by decide) w.heap.size u9 _ _ w2.heap.size (lCells ⟨ad, q.era + 1, -1⟩) rfl (World.ownsRow.alloc HMI.out.br _) rfl (Blk.new w2 39 _) rfl (lCells_one _) (by simp; omega) (by omega) ?_)
      intro v1 w3 ho1 hk1 hm1
      have bA : Below w2.heap.size w2 (w2.alloc (.cells (lCells ⟨ad, q.era + 1, -1⟩).toArray 39)) := (Below.refl _ _).alloc (Nat.le_refl _) _
      have hM3 := HMI.out.below bA
      have hX3 := (HXB.out.below bA).keep hk1 (fun e => Row.ne_blk hM3.br (HXB.out.below bA) (by decide) e)
      have c0' := hX3.cell 0 rfl
      have HI3 := Lib.hid ((HJ.out.below bA).keep hk1 (rowS_off (HJ.out.below bA) hM3.br (by decide) (by decide)))
      have HM3 := Lib.hid (show Mi w3 w.heap.size w1.heap.size v1 u10 m (q.born ad) (LB ++ [⟨ad, q.era + 1, -1⟩]) from
        ⟨hM3.vis.keep hk1 (fun e => Row.ne_blk hM3.br hM3.vis (by decide) e), by rw [flat_app]; simpa [flat, lCells] using ho1, Row.keep hM3.lr hk1 (fun i hi hs => hM3.ap i hs hi), fun i hi h1 => by
          rcases hm1 i hi with e | e
          · exact hM3.ap i e h1
          · have h9 := (Row.at_lt hM3.lr h1).2; simp at e h9; omega, hM3.gvlo, hM3.nm⟩)
      have HB3 := Lib.hid (HB2.out.trans ((bA.mono S2).trans (hk1.below (by simp; omega) (fun i hi => (Row.at_lt hM3.br hi).1))))
      have hxl3 := hX3.lt
      clear ho1 hk1 hm1 bA hM3 hX3 c0 c1 c2 c3
      go_wp2
      exact HEX.out v' (q.born ad) (_) _ _ _ _ _ _ _ _ _ _ _ _ _ _ _ _ _ _ _ _ _ _ _ _ _ _ _ _ _ _ _ _ _ _ _ _ _ _ _ _ _ _ _ _ _ _ _ _ _ _ _ _ _ _ _ _ _ _ _ _ _ _ _ _ _ _ _ _ _ _ _ _ _ _ _ _ _ _ _ _ _ _ _ _ _ _ _ _ _ _ _ _ _ _ _ _ _ _ _ _ _ _ _ _ _ _ _ _ _ _ _ _ _ _ _ _ _ _ _ _ _ _ _ _ _ _ _ _ _ _ _ _ _ _ _ _ _ _ _ _ _ _ _ _ _ _ _ _ _ _ _ _ _ _ _ _ _ _ _ _ _ _ _ _ _ _ _ _ _ _ _ _ _ _ _ _ _ _ _ _ _ _ _ _ _ _ _ _ _ _ _ _ _ _ _ _ _ _ _ _ _ _ _ _ _ _ _ _ _ _ _ _ _ _ _ _ _ _ _ _ _ _ _ _ _ _ _ _ _ _ _ _ _ _ _ _ _ _ _ _ _ _ _ _ _ _ _ _ (HI3.out) (HM3.out) (HKN.out) (HB3.out)
    by_cases hB : what = 1 ∨ what = 4 ∨ what = 5
    · have b0 : (what == 0) = false := beq_eq_false_iff_ne.2 e0
      have b2 : (what == 2) = false := beq_eq_false_iff_ne.2 e2
      have b3 : (what == 3) = false := beq_eq_false_iff_ne.2 e3
      have w0 : ¬ what < 0 := by omega
      have w5 : ¬ 5 < what := by omega
      have HBB := Lib.hid hB
      have HQF := Lib.hid (qb_step (q := q) (d := ⟨what, th, ho, ad⟩) hB HE.out HOKq.out)
      obtain ⟨qf, hqf⟩ : ∃ qf, (stepQ q ⟨what, th, ho, ad⟩).1 = qf := ⟨_, rfl⟩
      rw [hqf] at HIA HQF HGS HIV
      clear hqf hB e0 e2 e3
      go_upto_if 80 with fail
      go_cut [] from 78 to 80 (fun wx => Mi wx w.heap.size w1.heap.size u9 u10 m (qa q ⟨what, th, ho, ad⟩) LB ∧ IsS wx w.heap.size (w.heap.size + 1) w.heap.size v' qf ∧ Blk wx wr.heap.size 31 [.int .i64 what, .int .i64 th, .int .i64 ho, .int .i64 ad] ∧ Below w.heap.size w wx)
      case first =>
        by_cases e1 : what = 1
        · subst e1
          obtain ⟨hot, _⟩ := ok_out (q := q) (d := ⟨1, th, ho, ad⟩) rfl HE.out
          dsimp only at hot
          obtain ⟨k0, rfl⟩ : ∃ k : Nat, th = k := ⟨th.toNat, by have := hot.1; omega⟩
          have HOT := Lib.hid hot
          clear hot
          have hkm : k0 < m := by have h1 := HOT.out.2; rw [HMI.out.nm] at h1; omega
          have ff : ∀ j, w2.frozen? ⟨w1.heap.size, j, none⟩ = false := fun j => HMI.out.vis.free j
          have hat := fun j (hj : j < 6) => (seenTo_at q hm4 hkm hj)
          have y0 := HMI.out.vis.cell (k0 * 6) (by have := hat 0 (by omega); rw [Nat.add_zero] at this; rw [this]; rfl)
          have y1 := HMI.out.vis.cell (k0 * 6 + 1) (by rw [hat 1 (by omega)]; rfl)
          have y2 := HMI.out.vis.cell (k0 * 6 + 2) (by rw [hat 2 (by omega)]; rfl)
          have y3 := HMI.out.vis.cell (k0 * 6 + 3) (by rw [hat 3 (by omega)]; rfl)
          have y4 := HMI.out.vis.cell (k0 * 6 + 4) (by rw [hat 4 (by omega)]; rfl)
          have y5 := HMI.out.vis.cell (k0 * 6 + 5) (by rw [hat 5 (by omega)]; rfl)
          clear hat
          go_wp2_with fail
          go_meet
          case rel =>
            have p1 := HMI.out.put hm4 hkm Sn.none
            have p2 := six_kept w2 w1.heap.size (k0 * 6) (k0 * 6 + 1) (k0 * 6 + 2) (k0 * 6 + 3) (k0 * 6 + 4) (k0 * 6 + 5) Sn.none
            have p3 := HIA.out.keep p2 (HMI.out.off HIA.out)
            have p4 := HB2.out.trans (p2.below S2 (fun i hi => by rw [hi]; exact HMI.out.gvlo))
            have p5 := HXB.out.keep p2 hgne
            simp only [six, Sn.none] at p1 p3 p4 p5
            exact ⟨p1, p3, p5, p4⟩
        · have b1 : (what == 1) = false := beq_eq_false_iff_ne.2 e1
          have HQA := Lib.hid (show qa q ⟨what, th, ho, ad⟩ = q from if_neg e1)
          clear e1
          go_wp2_with fail
          go_meet
          case rel => exact ⟨by rw [HQA.out]; exact HMI.out, HIA.out, HXB.out, HB2.out⟩
      case rest =>
      obtain ⟨hma, hia, hxa, hba⟩ := hcut
      have c0 := hxa.cell 0 rfl
      have c1 := hxa.cell 1 rfl
      have c2 := hxa.cell 2 rfl
      have c3 := hxa.cell 3 rfl
      have hxlt := hxa.lt
      have HMA := Lib.hid hma
      have HIC := Lib.hid hia
      have HXA := Lib.hid hxa
      have HBA := Lib.hid hba
      have SC := hba.size
      have HAE := Lib.hid (qa_era q ⟨what, th, ho, ad⟩)
      clear hma hia hxa hba
      go_upto_if 127 with fail
      go_cut [10] from 125 to 127 (fun s10 wx => Mi wx w.heap.size w1.heap.size u9 s10 m (qb q ⟨what, th, ho, ad⟩) LB ∧ IsS wx w.heap.size (w.heap.size + 1) w.heap.size v' qf ∧ Blk wx wr.heap.size 31 [.int .i64 what, .int .i64 th, .int .i64 ho, .int .i64 ad] ∧ Below w.heap.size w wx)
      case first =>
        by_cases e4 : what = 4
        · subst e4
          have HQB := Lib.hid (show qb q ⟨4, th, ho, ad⟩ = (qa q ⟨4, th, ho, ad⟩).add ad from rfl)
          obtain ⟨A9, c9, hu9, hc91, hc92⟩ := Row.shape HMA.out.br
          subst hu9
          have hc93 : c9 ≤ 9223372036854775807 := by simpa [maxLen] using hc92
          clear hc92
          go_wp2_with fail
          have bX : Below wc.heap.size wc (wc.alloc (.cells #[.int .i64 ad, .int .i64 0, .int .i64 q.era] 39)) := (Below.refl _ _).alloc (Nat.le_refl _) _
          have HX0' := Lib.hid (Blk.new wc 39 [.int .i64 ad, .int .i64 0, .int .i64 q.era])
          have HBX := Lib.hid bX
          clear bX
          go_loopw [16] (fun i wr => ∃ j : Nat, j ≤ LB.length ∧ i = .int .i64 j ∧ Blk wr wc.heap.size 39 (lCells ⟨ad, lk (LB.take j) ad, q.era⟩) ∧ Below wc.heap.size wc wr) (fun i _ => LB.length - (intOf i).toNat)
          case atStart => exact ⟨0, Nat.zero_le _, rfl, HX0'.out, HBX.out⟩
          case round =>
            obtain ⟨j, hj, rfl, hX, hbel⟩ := hrel
            have hsz5 := hbel.size
            have hXlt := hX.lt
            have HM5 := Lib.hid (HMA.out.below hbel)
            have hd5 := HXA.out.below hbel
            have z3 := hd5.cell 3 rfl
            have z0 := hd5.cell 0 rfl
            have zlt := hd5.lt
            have HD5 := Lib.hid hd5
            have HB5 := Lib.hid hbel
            clear hbel hd5
            by_cases hjl : j < LB.length
            · obtain ⟨b9, o9, rfl, hb9, hc9⟩ := Rd.elem (Row.rd HM5.out.br) hjl
              have hat := fun i hi => (hc9 i hi).trans (flat_at LB j hjl i hi)
              have p0 := hat 0 (by decide)
              have p1 := hat 1 (by decide)
              simp only [lCells, List.getElem?_cons_zero, List.getElem?_cons_succ, Nat.add_zero] at p0 p1
              have hfs := Lib.hid (lk_take hjl ad)
              have x1 := hX.cell 1 rfl
              have f1 := hX.free 1
              have HX5 := Lib.hid hX
              obtain ⟨y, hy⟩ : ∃ y, LB[j] = y := ⟨_, rfl⟩
              rw [hy] at p0 p1 hfs
              clear hc9 hat hy hX
              by_cases hya : y.a = ad
              · have q1' : (y.a == ad) = true := beq_iff_eq.2 hya
                have HN := Lib.hid (show lk (LB.take (j + 1)) ad = y.b by rw [hfs.out, if_pos hya])
                clear hya
                go_wp2_with fail
                go_quiet (fail)
                go_wp2
                go_roundw
                case measure => simp [intOf]; omega
                case rel => exact ⟨j + 1, by omega, by go_num, by rw [HN.out]; exact Blk.of (HX5.out.set 1 _) rfl, (HB5.out.drewN _).setCell (Nat.le_refl _) _⟩
              · have q1' : (y.a == ad) = false := beq_eq_false_iff_ne.2 hya
                have HN := Lib.hid (show lk (LB.take (j + 1)) ad = lk (LB.take j) ad by rw [hfs.out, if_neg hya])
                clear hya
                go_wp2_with fail
                go_quiet (fail)
                go_wp2
                go_roundw
                case measure => simp [intOf]; omega
                case rel => exact ⟨j + 1, by omega, by go_num, by rw [HN.out]; exact HX5.out, HB5.out.drewN _⟩
            · have hje : j = LB.length := by omega
              have hX' : Blk wr wc.heap.size 39 (lCells ⟨ad, q.bi ad, q.era⟩) := by rw [hje, List.take_length, HK.out.lk] at hX; exact hX
              have x0 := hX'.cell 0 rfl
              have x1 := hX'.cell 1 rfl
              have x2 := hX'.cell 2 rfl
              clear hX hje hX'
              have SB5 := (HBA.out.trans (HB5.out.mono SC)).size
              go_wp2_with (at_builtin; refine wpList_app rfl (.tmp 152) (.tmp 154) rfl Try.underlying29 info39 rfl (by decide) (by decide) w.heap.size u10 _ _ wr.heap.size (lCells ⟨ad, q.bi ad, q.era⟩) rfl (World.ownsRow.alloc HM5.out.lr _) rfl (Blk.new wr 39 _) rfl (lCells_one _) (by simp; omega) (by show q.ws.length < 1000000; omega) ?_)
              intro v1 w6 ho1 hk1 hm1
              have bA : Below wr.heap.size wr (wr.alloc (.cells (lCells ⟨ad, q.bi ad, q.era⟩).toArray 39)) := (Below.refl _ _).alloc (Nat.le_refl _) _
              have hM6 := HM5.out.below bA
              have HI6 := Lib.hid (((HIC.out.below HB5.out).below bA).keep hk1 (rowS_off ((HIC.out.below HB5.out).below bA) hM6.lr (by decide) (by decide)))
              have HM6 := Lib.hid (show Mi w6 w.heap.size w1.heap.size (.slice A9 LB.length c9) v1 m (qb q ⟨4, th, ho, ad⟩) LB from
                ⟨hM6.vis.keep hk1 (fun e => Row.ne_blk hM6.lr hM6.vis (by decide) e), Row.keep hM6.br hk1 (fun i hi hs => hM6.ap i hi hs), by have ho2 := ho1; rw [show qa q ⟨4, th, ho, ad⟩ = q from if_neg (by show ¬ (4 : Int) = 1; decide)] at ho2; rw [HQB.out, show qa q ⟨4, th, ho, ad⟩ = q from if_neg (by show ¬ (4 : Int) = 1; decide)]; simp only [Q.add]; rw [flat_app]; simpa [flat, lCells] using ho2, fun i hi h1 => by
                  rcases hm1 i h1 with e | e
                  · exact hM6.ap i hi e
                  · have h9 := (Row.at_lt hM6.br hi).2; simp at e h9; omega, hM6.gvlo, hM6.nm⟩)
              have HX6 := Lib.hid ((HD5.out.below bA).keep hk1 (fun e => Row.ne_blk hM6.lr (HD5.out.below bA) (by decide) e))
              have HB6 := Lib.hid ((HBA.out.trans (HB5.out.mono SC)).trans ((bA.mono SB5).trans (hk1.below (by simp; omega) (fun i hi => (Row.at_lt hM6.lr hi).1))))
              clear ho1 hk1 hm1 bA hM6
              go_wp2_with fail
              go_meet
              case rel => exact ⟨HM6.out, HI6.out, HX6.out, HB6.out⟩
        · have b4 : (what == 4) = false := beq_eq_false_iff_ne.2 e4
          have HQB := Lib.hid (show qb q ⟨what, th, ho, ad⟩ = qa q ⟨what, th, ho, ad⟩ from if_neg e4)
          clear e4
          go_wp2_with fail
          go_meet
          case rel => exact ⟨by rw [HQB.out]; exact HMA.out, HIC.out, HXA.out, HBA.out⟩
      case rest =>
      obtain ⟨hmb, hib, hxb2, hbb⟩ := hcut
      have c0 := hxb2.cell 0 rfl
      have hxlt := hxb2.lt
      go_upto_region 33 with fail
      go_cut [168] from 156 to 168 (fun s wx => s = .bool false ∧ wx = wc)
      case first =>
        rcases HBB.out with rfl | rfl | rfl
        all_goals
          go_wp2_with fail
          go_meet
          case rel => exact ⟨rfl, rfl⟩
      case rest =>
      obtain ⟨rfl, hwc⟩ := hcut
      subst hwc
      rw [HQF.out] at hib
      have HGS2 := HGS.out
      have HIV2 := HIV.out
      rw [HQF.out] at HGS2 HIV2
      have hov := qb_out HK.out.inv HE.out
      have hlk : ∀ a, lk LB a = (qb q ⟨what, th, ho, ad⟩).bi a := by rw [qb_bi]; exact HK.out.lk
      have hlw := qb_len q ⟨what, th, ho, ad⟩
      have HERA := Lib.hid (qb_era q ⟨what, th, ho, ad⟩)
      rw [← HERA.out]
      generalize qb q ⟨what, th, ho, ad⟩ = q1 at hmb hib HGS2 HIV2 hov hlk hlw HERA ⊢
      have hlw : q1.ws.length ≤ 201 := by omega
      have p1 := hmb
      have p3 := hib
      have p4 := hbb
      obtain ⟨wS, hwS⟩ : ∃ wS : World, wS = wc := ⟨_, rfl⟩
      rw [← hwS] at p1 p3 p4 ⊢
      have HKN := Lib.hid (show Kn q1.swept (fgtAll LB (backs q1 q1.ws)) (K + 1) from ⟨HGS2, HIV2, fun a => by rw [lk_fgtAll]; simp only [clr, hlk]; rfl, Nat.le_trans (fgtAll_le _ _) (by omega)⟩)
      have HOK := Lib.hid (show q1.swept.ok 0 from ⟨Int.le_refl 0, by show (0 : Int) < q1.n; rw [p1.nm]; omega⟩)
      have HO1 := Lib.hid (show ∀ i, (m : Int) ≤ i → 0 ≤ i → i < 4 → (q1.get i).i = false by rw [← p1.nm]; exact hov)
      have HNM := Lib.hid p1.nm
      have HGV := Lib.hid p1.gvlo
      have HVS := Lib.hid p1.vis
      have HBS := Lib.hid p1.br
      have HLS := Lib.hid p1.lr
      have HIS := Lib.hid p3
      have HBelS := Lib.hid p4
      clear hmb hib hxb2 hbb p1 p3 p4 HGS2 HIV2 hov hlk hwS c0
      obtain ⟨A10, c10, hu10, hc101, hc102⟩ := Row.shape HLS.out
      subst hu10
      have hc103 : c10 ≤ 9223372036854775807 := by simpa [maxLen] using hc102
      clear hc102
      go_wp2_with fail
      refine lives_loop (BB := w.heap.size) (LB := LB) (q1 := q1) (hm4 := hm4) (hBB := HBelS.out.size) (hc101 := hc101) (hc103 := hc103) (hql := hlw) (hLB := by have := HK.out.len; omega) (HLS := HLS) (HVS := HVS) (HBS := HBS) (HO1 := HO1) ?_
      intro u9 u17 u18 u19 u20 u21 u22 u23 u24 u25 u169 u170 u171 u172 u173 u174 u175 u176 u177 u178 u179 u180 u181 u182 u183 u184 u185 u186 u187 u188 u189 u190 u191 u192 u193 u194 u195 u196 u197 u198 u199 u200 u201 u202 u203 u204 u205 u206 u207 u208 u209 u210 u211 u212 u213 u214 u215 u216 u217 u218 u219 u220 u221 u222 u223 u224 u225 u226 u227 u228 u229 u230 u231 u232 u233 u234 u235 u236 u237 u238 u239 u240 u241 u242 u243 u244 u245 u246 u247 u248 u249 u250 u251 u252 u253 u254 u255 u256 u257 u258 u259 u260 u261 u262 u263 u264 u265 u266 u267 u268 u269 u270 wr hbr hlr hwr hap hbel
      have sS0 := HBelS.out.size
      have HMI := Lib.hid (show Mi wr w.heap.size w1.heap.size u9 u17 m q1.swept (fgtAll LB (backs q1 q1.ws)) from ⟨HVS.out.below hbel, hbr, Row.mono hlr (by omega), hap, HGV.out, HNM.out⟩)
      have J := HIS.out.below hbel
      have HWR := Lib.hid hwr
      have HBE := Lib.hid (HBelS.out.trans (hbel.mono HBelS.out.size))
      have sE := HBE.out.size
      clear hbr hlr hwr hbel
      go_wp2_with fail
      refine (waiting_yes J HOK.out (by have := HKN.out.gd.len; omega)).mono ?_
      rintro e w9 ⟨uw9, rfl, o9, b9⟩
      go_wp2_with fail
      refine (ints_any (Row.rd o9) (Row.rd (Row.below HWR.out b9))).mono ?_
      rintro e w10 ⟨rfl, b10⟩
      rw [show decide (addrs q1.swept.ws = addrs (lefts q1 q1.ws)) = true from decide_eq_true rfl]
      have b910 := b9.trans (b10.mono b9.size)
      have HJ := Lib.hid (J.below b910)
      have HMJ := Lib.hid (HMI.out.below b910)
      have HBJ := Lib.hid (HBE.out.trans (b910.mono sE))
      clear J b9 b10 b910 o9
      go_wp2
      exact HEX.out v' (q1.swept) (_) _ _ _ _ _ _ _ _ _ _ _ _ _ _ _ _ _ _ _ _ _ _ _ _ _ _ _ _ _ _ _ _ _ _ _ _ _ _ _ _ _ _ _ _ _ _ _ _ _ _ _ _ _ _ _ _ _ _ _ _ _ _ _ _ _ _ _ _ _ _ _ _ _ _ _ _ _ _ _ _ _ _ _ _ _ _ _ _ _ _ _ _ _ _ _ _ _ _ _ _ _ _ _ _ _ _ _ _ _ _ _ _ _ _ _ _ _ _ _ _ _ _ _ _ _ _ _ _ _ _ _ _ _ _ _ _ _ _ _ _ _ _ _ _ _ _ _ _ _ _ _ _ _ _ _ _ _ _ _ _ _ _ _ _ _ _ _ _ _ _ _ _ _ _ _ _ _ _ _ _ _ _ _ _ _ _ _ _ _ _ _ _ _ _ _ _ _ _ _ _ _ _ _ _ _ _ _ _ _ _ _ _ _ _ _ _ _ _ _ _ _ _ _ _ _ _ _ _ _ _ _ _ _ _ _ _ _ _ _ _ _ _ _ _ _ _ _ _ (HJ.out) (HMJ.out) (HKN.out) (HBJ.out)
    have HQ := Lib.hid (other_same (q := q) (d := ⟨what, th, ho, ad⟩) (show what < 0 ∨ 5 < what by omega))
    have J := HIA.out
    rw [HQ.out] at J
    have HJ := Lib.hid J
    clear J
    by_cases hneg : what < 0
    · go_wp2
      exact HEX.out v' (q) (LB) _ _ _ _ _ _ _ _ _ _ _ _ _ _ _ _ _ _ _ _ _ _ _ _ _ _ _ _ _ _ _ _ _ _ _ _ _ _ _ _ _ _ _ _ _ _ _ _ _ _ _ _ _ _ _ _ _ _ _ _ _ _ _ _ _ _ _ _ _ _ _ _ _ _ _ _ _ _ _ _ _ _ _ _ _ _ _ _ _ _ _ _ _ _ _ _ _ _ _ _ _ _ _ _ _ _ _ _ _ _ _ _ _ _ _ _ _ _ _ _ _ _ _ _ _ _ _ _ _ _ _ _ _ _ _ _ _ _ _ _ _ _ _ _ _ _ _ _ _ _ _ _ _ _ _ _ _ _ _ _ _ _ _ _ _ _ _ _ _ _ _ _ _ _ _ _ _ _ _ _ _ _ _ _ _ _ _ _ _ _ _ _ _ _ _ _ _ _ _ _ _ _ _ _ _ _ _ _ _ _ _ _ _ _ _ _ _ _ _ _ _ _ _ _ _ _ _ _ _ _ _ _ _ _ _ _ _ _ _ _ _ _ _ _ _ _ _ _ (HJ.out) (HMI.out) (⟨HK.out.gd.mono (by omega), HK.out.inv, HK.out.lk, by have := HK.out.len; omega⟩) (HB2.out)
    · have hbig : 5 < what := by omega
      go_wp2
      exact HEX.out v' (q) (LB) _ _ _ _ _ _ _ _ _ _ _ _ _ _ _ _ _ _ _ _ _ _ _ _ _ _ _ _ _ _ _ _ _ _ _ _ _ _ _ _ _ _ _ _ _ _ _ _ _ _ _ _ _ _ _ _ _ _ _ _ _ _ _ _ _ _ _ _ _ _ _ _ _ _ _ _ _ _ _ _ _ _ _ _ _ _ _ _ _ _ _ _ _ _ _ _ _ _ _ _ _ _ _ _ _ _ _ _ _ _ _ _ _ _ _ _ _ _ _ _ _ _ _ _ _ _ _ _ _ _ _ _ _ _ _ _ _ _ _ _ _ _ _ _ _ _ _ _ _ _ _ _ _ _ _ _ _ _ _ _ _ _ _ _ _ _ _ _ _ _ _ _ _ _ _ _ _ _ _ _ _ _ _ _ _ _ _ _ _ _ _ _ _ _ _ _ _ _ _ _ _ _ _ _ _ _ _ _ _ _ _ _ _ _ _ _ _ _ _ _ _ _ _ _ _ _ _ _ _ _ _ _ _ _ _ _ _ _ _ _ _ _ _ _ _ _ _ _ (HJ.out) (HMI.out) (⟨HK.out.gd.mono (by omega), HK.out.inv, HK.out.lk, by have := HK.out.len; omega⟩) (HB2.out)
  · have HQ := Lib.hid (not_ok_same he)
    have J := HIA.out
    rw [HQ.out] at J
    have HJ := Lib.hid J
    have q1 : ((stepQ q ⟨what, th, ho, ad⟩).2.2 == 0) = false := beq_eq_false_iff_ne.2 he
    have q2 : ((stepQ q ⟨what, th, ho, ad⟩).2.2 != 0) = true := by simp [he]
    clear he J
    go_wp2
    exact HEX.out v' (q) (LB) _ _ _ _ _ _ _ _ _ _ _ _ _ _ _ _ _ _ _ _ _ _ _ _ _ _ _ _ _ _ _ _ _ _ _ _ _ _ _ _ _ _ _ _ _ _ _ _ _ _ _ _ _ _ _ _ _ _ _ _ _ _ _ _ _ _ _ _ _ _ _ _ _ _ _ _ _ _ _ _ _ _ _ _ _ _ _ _ _ _ _ _ _ _ _ _ _ _ _ _ _ _ _ _ _ _ _ _ _ _ _ _ _ _ _ _ _ _ _ _ _ _ _ _ _ _ _ _ _ _ _ _ _ _ _ _ _ _ _ _ _ _ _ _ _ _ _ _ _ _ _ _ _ _ _ _ _ _ _ _ _ _ _ _ _ _ _ _ _ _ _ _ _ _ _ _ _ _ _ _ _ _ _ _ _ _ _ _ _ _ _ _ _ _ _ _ _ _ _ _ _ _ _ _ _ _ _ _ _ _ _ _ _ _ _ _ _ _ _ _ _ _ _ _ _ _ _ _ _ _ _ _ _ _ _ _ _ _ _ _ _ _ _ _ _ _ _ _ (HJ.out) (HMI.out) (⟨HK.out.gd.mono (by omega), HK.out.inv, HK.out.lk, by have := HK.out.len; omega⟩) (HB2.out)
end Go.Proofs.Ytiokifkppfegfaa
