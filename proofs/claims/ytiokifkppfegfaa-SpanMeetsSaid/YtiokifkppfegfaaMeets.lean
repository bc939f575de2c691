/-
  The walk of the law of the intervals: a loop as a declaration of its own.
-/
import Derived.Test.YtiokifkppfegfaaMeetsD
import Derived.Deep.CutRange
import Derived.Deep.CutBlock
set_option linter.unusedVariables false
set_option linter.unusedSimpArgs false
namespace Go.Proofs.Ytiokifkppfegfaa
open Go.RowKit Mem Qm
set_option maxRecDepth 100000
set_option maxHeartbeats 4000000 in
theorem meets_walk {w : World} {n : Int} {u : Value} {ds : List Deed} (hd : RdD w u ds) :
    Calls Try.prog 3 #[.int .i64 n, u] w (Tells w true) := by
  obtain ⟨A, c, rfl, hc1, hc2⟩ := hd.shape
  have Hd := Lib.hid hd
  clear hd
  by_cases hl : ds.length ≤ 200
  · by_cases hn : 1 ≤ n ∧ n ≤ 4
    · obtain ⟨n0, n4⟩ := hn
      obtain ⟨m, rfl⟩ : ∃ m : Nat, n = m := ⟨n.toNat, by omega⟩
      have hm1 : 1 ≤ m := by omega
      have hm4 : m ≤ 4 := by omega
      have mk := run_make_rows (P := Try.prog) 28 37 _ 6 48 Try.underlying28 info37 m (by omega) (by omega)
      have HV0 := Lib.hid (made_seen hm1 hm4)
      go_enter Try.func3, Try.ntmps3
      go_wp2_with fail
      refine (new_yes n0 n4).mono ?_
      rintro e w1 ⟨rfl, h1, b1⟩
      have s1 := b1.size
      go_wp2_with fail
      have bM : Below w1.heap.size w1 (w1.alloc (.cells (madeCells (Value.cells (.agg #[.bool false, .int .i64 0, .int .i64 0, .int .i64 0, .int .i64 0, .int .i64 0])) (m * 6)) 37)) := (Below.refl _ _).alloc (Nat.le_refl _) _
      have hv : Blk (w1.alloc (.cells (madeCells (Value.cells (.agg #[.bool false, .int .i64 0, .int .i64 0, .int .i64 0, .int .i64 0, .int .i64 0])) (m * 6)) 37)) w1.heap.size 37 (seenTo (q0 (m : Int)) m) := by
        rw [← HV0.out]; exact Blk.new w1 37 _
      have h2 := h1.below bM
      have HB0 := Lib.hid (b1.trans (bM.mono s1))
      have HM0 := Lib.hid (show Mi (w1.alloc (.cells (madeCells (Value.cells (.agg #[.bool false, .int .i64 0, .int .i64 0, .int .i64 0, .int .i64 0, .int .i64 0])) (m * 6)) 37)) w.heap.size w1.heap.size (.slice none 0 0) (.slice none 0 0) m (q0 (m : Int)) [] from ⟨hv, World.ownsRow_nil _ _ _ _, World.ownsRow_nil _ _ _ _, (fun i h => by cases h), s1, rfl⟩)
      have H2 := Lib.hid h2
      clear mk h1 b1 bM hv h2
      go_loopw [8, 9, 10, 11] (fun ue ub ul i wr => ∃ (K : Nat) (v : Value) (q : Q) (LB : List Life), K ≤ ds.length ∧ i = .int .i64 K ∧ ue = .int .i64 q.era ∧ IsS wr w.heap.size (w.heap.size + 1) w.heap.size v q ∧ Mi wr w.heap.size w1.heap.size ub ul m q LB ∧ Hid (Kn q LB K) ∧ Below w.heap.size w wr) (fun _ _ _ i _ => ds.length - (intOf i).toNat)
      case atStart => exact ⟨0, _, q0 (m : Int), [], Nat.zero_le _, rfl, rfl, H2.out, HM0.out, ⟨good_q0 n4, inv_q0 n4, fun a => rfl, Nat.le_refl _⟩, HB0.out⟩
      case round =>
        obtain ⟨K, v, q, LB, hK, rfl, rfl, hi, hmi, HK, hbel⟩ := hrel
        have hsz := hbel.size
        by_cases hltK : K < ds.length
        · have HB := Lib.hid hbel
          have HI := Lib.hid hi
          have HMI := Lib.hid hmi
          clear hbel hi hmi
          go_upto_block 1 with fail
          refine deed_round (w := w) (w1 := w1) (ds := ds) (K := K) (v := v) (q := q) (LB := LB) (hm1 := hm1) (hm4 := hm4) (hl := hl) (hltK := hltK) (hc1 := hc1) (hc2 := hc2) (Hd := Hd) (HI := HI) (HMI := HMI) (HK := HK) (HB0 := HB) ?_
          intro v' q' LB' u9 u10 u12 u13 u14 u15 u16 u17 u18 u19 u20 u21 u22 u23 u24 u25 u46 u47 u48 u49 u50 u51 u52 u53 u54 u55 u56 u57 u58 u59 u60 u61 u62 u63 u64 u65 u66 u67 u68 u69 u70 u71 u72 u73 u74 u75 u76 u77 u78 u79 u80 u81 u82 u83 u84 u85 u86 u87 u88 u89 u90 u91 u92 u93 u94 u95 u96 u97 u98 u99 u100 u101 u102 u103 u104 u105 u106 u107 u108 u109 u110 u111 u112 u113 u114 u115 u116 u117 u118 u119 u120 u121 u122 u123 u124 u125 u126 u127 u128 u129 u130 u131 u132 u133 u134 u135 u136 u137 u138 u139 u140 u141 u142 u143 u144 u145 u146 u147 u148 u149 u150 u151 u152 u153 u154 u155 u156 u157 u158 u159 u160 u161 u162 u163 u164 u165 u166 u167 u168 u169 u170 u171 u172 u173 u174 u175 u176 u177 u178 u179 u180 u181 u182 u183 u184 u185 u186 u187 u188 u189 u190 u191 u192 u193 u194 u195 u196 u197 u198 u199 u200 u201 u202 u203 u204 u205 u206 u207 u208 u209 u210 u211 u212 u213 u214 u215 u216 u217 u218 u219 u220 u221 u222 u223 u224 u225 u226 u227 u228 u229 u230 u231 u232 u233 u234 u235 u236 u237 u238 u239 u240 u241 u242 u243 u244 u245 u246 u247 u248 u249 u250 u251 u252 u253 u254 u255 u256 u257 u258 u259 u260 u261 u262 u263 u264 u265 u266 u267 u268 u269 u270 u271 u272 u273 u274 u275 u276 wE hi2 hmi2 hk2 hb2
          have HI2 := Lib.hid hi2
          have HM2 := Lib.hid hmi2
          have HB2 := Lib.hid hb2
          clear hi2 hmi2 hb2
          go_wp2
          go_roundw
          case measure => simp [intOf]; omega
          case rel => exact ⟨K + 1, v', q', LB', by omega, by go_num, rfl, HI2.out, HM2.out, hk2, HB2.out⟩
        · have HB := Lib.hid hbel
          clear hbel hi hmi
          go_wp2_with (go_at_call 10; refine (sane_any _).mono ?_; rintro e w6 ⟨rfl, b7⟩)
          go_ret
          exact ⟨rfl, HB.out.trans (b7.mono hsz)⟩
    · have Hn := Lib.hid hn
      clear hn
      go_enter Try.func3, Try.ntmps3
      go_wp2_with fail
      refine (new_no Hn.out).mono ?_
      rintro e w1 ⟨rfl, rfl⟩
      go_wp2_with (go_at_call 10; refine (sane_any _).mono ?_; rintro e w6 ⟨rfl, b7⟩)
      go_ret
      exact ⟨rfl, b7⟩
  · go_enter Try.func3, Try.ntmps3
    go_wp2_with (go_at_call 10; refine (sane_any _).mono ?_; rintro e w6 ⟨rfl, b7⟩)
    go_ret
    exact ⟨rfl, b7⟩
end Go.Proofs.Ytiokifkppfegfaa
