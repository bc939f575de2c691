/-
  The iterator over all choices from where the events read.
-/
import Derived.Test.YtkddckfgdiemkaaGreatCW7
set_option linter.unusedVariables false
set_option linter.unusedSimpArgs false
namespace Go.Proofs.YtkddckfgdiemkaaGreat
open Go.RowKit Go.Shelf Mem
set_option maxRecDepth 100000
attribute [local go_sem] Oper.semAt_some

/-- A list of lists that is read, none of its blocks in S. -/
def RdL (W : World) (S : Nat → Prop) (v : Value) (x : List (List Int)) : Prop :=
  ∃ us, Rd W v x.length 1 us ∧ us.length = x.length ∧ (∀ g, v.ownBlock = some g → ¬ S g) ∧ ∀ k u, us[k]? = some u → RdI W u (x.getD k []) ∧ ∀ g, u.ownBlock = some g → ¬ S g
theorem RdL.keep {W W' : World} {S : Nat → Prop} {v : Value} {x : List (List Int)} (h : RdL W S v x) (k : Kept W W' S) : RdL W' S v x := by
  obtain ⟨us, h1, h2, h3, h4⟩ := h
  exact ⟨us, Rd.keep h1 k h3, h2, h3, fun j u hu => ⟨Rd.keep (h4 j u hu).1 k (h4 j u hu).2, (h4 j u hu).2⟩⟩
theorem RdL.below {W W' : World} {S : Nat → Prop} {v : Value} {x : List (List Int)} (h : RdL W S v x) (k : Below W.heap.size W W') : RdL W' S v x := h.keep (Kept.of_below k S)
theorem RdL.mono {W : World} {S T : Nat → Prop} {v : Value} {x : List (List Int)} (h : RdL W S v x) (hT : ∀ k, T k → S k) : RdL W T v x := by
  obtain ⟨us, h1, h2, h3, h4⟩ := h
  exact ⟨us, h1, h2, fun g hg ht => h3 g hg (hT g ht), fun k u hu => ⟨(h4 k u hu).1, fun g hg ht => (h4 k u hu).2 g hg (hT g ht)⟩⟩
theorem RdL.keep2 {W W' : World} {S T : Nat → Prop} {v : Value} {x : List (List Int)} (h : RdL W S v x) (k : Kept W W' T) (hT : ∀ k, T k → S k) : RdL W' S v x := by
  obtain ⟨us, h1, h2, h3, h4⟩ := h
  exact ⟨us, Rd.keep h1 k (fun g hg ht => h3 g hg (hT g ht)), h2, h3, fun j u hu => ⟨Rd.keep (h4 j u hu).1 k (fun g hg ht => (h4 j u hu).2 g hg (hT g ht)), (h4 j u hu).2⟩⟩
theorem RdL.shape {W : World} {S : Nat → Prop} {v : Value} {x : List (List Int)} (h : RdL W S v x) : ∃ A c, v = .slice A x.length c ∧ x.length ≤ c ∧ c ≤ 9223372036854775807 := by
  obtain ⟨us, h1, _⟩ := h; exact h1.shape
theorem RdL.at_ {W : World} {S : Nat → Prop} {A : Option Addr} {c : Nat} {x : List (List Int)} (h : RdL W S (.slice A x.length c) x) {k : Nat} (hk : k < x.length) :
    ∃ b off A1 c1, A = some ⟨b, off, none⟩ ∧ W.cell? ⟨b, off + k, none⟩ = some (.slice A1 (x.getD k []).length c1) ∧ (x.getD k []).length ≤ c1 ∧ c1 ≤ 9223372036854775807 ∧ RdI W (.slice A1 (x.getD k []).length c1) (x.getD k []) ∧ ∀ g, (Value.slice A1 (x.getD k []).length c1).ownBlock = some g → ¬ S g := by
  obtain ⟨us, h1, h2, h3, h4⟩ := h
  obtain ⟨b, off, hA, hb, hc⟩ := h1.one hk
  have hu : us[k]? = some (us[k]'(by omega)) := List.getElem?_eq_getElem _
  obtain ⟨hr, hs⟩ := h4 k _ hu
  obtain ⟨A1, c1, he, k1, k2⟩ := hr.shape
  rw [he] at hr hs
  exact ⟨b, off, A1, c1, hA, by rw [hc, hu, he], k1, k2, hr, hs⟩
theorem OwnL.rd {W : World} {B : Nat} {v : Value} {x : List (List Int)} (h : OwnL W B v x) {S : Nat → Prop} (hS : ∀ k, B ≤ k → ¬ S k) : RdL W S v x := by
  obtain ⟨us, h1, h2, h3⟩ := h
  exact ⟨us, Row.rd h1, h2, fun g hg => hS g (Row.at_lt h1 hg).1, fun k u hu => ⟨Row.rd (h3 k u hu), fun g hg => hS g (Row.at_lt (h3 k u hu) hg).1⟩⟩
/-- 'append([]int{e}, u...)' of a list that is read. -/
theorem run_app_read (w : World) (ty : TypeId) (N : Nat) (e : Int) (hN : Blk w N 3 [.int .i64 e]) (u : Value) (m : List Int) (hu : RdI w u m) (hl : m.length < 900000) :
    ∃ v' w', (Builtin.append_ #[28, 28] ty #[.slice (some ⟨N, 0, none⟩) 1 1, u]).run Tryz.prog w = .ok v' w' ∧ Own w' N v' (e :: m) ∧ Kept w w' (fun k => k = N) := by
  obtain ⟨i0, hi0, hz0, hz1, hz2⟩ := info_one info3
  have hown : Row w N 3 1 (.slice (some ⟨N, 0, none⟩) 1 1) 1 [.int .i64 e] := ⟨rfl, .inr ⟨N, 1, #[.int .i64 e], rfl, Nat.le_refl _, hN, Nat.le_refl _, by simp [maxLen], rfl, rfl⟩⟩
  obtain ⟨hlen, A, c, rfl, h1, h2, h3⟩ := hu
  have hNl := hN.lt
  cases A with
  | none =>
    have hm : m = [] := by
      rcases Nat.eq_zero_or_pos m.length with h | h
      · exact List.eq_nil_of_length_eq_zero h
      · obtain ⟨b, off, hA, _⟩ := h3 h; cases hA
    subst hm
    refine ⟨_, w, ?_, hown, Kept.refl _ _⟩
    have := run_append_owned_none (P := Tryz.prog) (w := w) N 28 ty 3 i0 1 Tryz.underlying28 hi0 _ 1 [.int .i64 e] hown
    exact this
  | some ad =>
    obtain ⟨v', w', hrun, h2', h3', h4', h5'⟩ := run_append_own_at (P := Tryz.prog) w N 28 ty 3 i0 (.int .i64 0) 1 8 Tryz.underlying28 hi0 hz0 hz1 hz2 rfl (by decide) _ 1 [.int .i64 e] hown ad m.length c (ints m) (by simp [ints])
      (fun j u hj => by
        have hj' : j < (ints m).length := (List.getElem?_eq_some_iff.1 hj).1
        obtain ⟨b', off', hA, hlt, hc⟩ := h3 (by rw [ints_length] at hj'; omega)
        injection hA with hA
        subst hA
        rw [Addr.add_mid]
        exact hc j u hj) (ints_one m) (by simp only [maxLen]; omega) (by omega) (by omega)
    refine ⟨v', w', hrun, ?_, (Kept.refl w _).grown h3' (fun k hk => .inl (by simp [Value.ownBlock] at hk; exact hk.symm))⟩
    have := h2'
    simpa [Own, ints, Nat.add_comm] using this
theorem step_app_read {ops : Array Oper} {o : Oper} {a : Act} {w : World} {K : Act → World → Prop} {Q : Exit → Act → World → Prop} {E : Prop} (hw : Region.wanted o (yielded ops a.tmps) = true) (s x : Operand)
    (ho : o.op = .call { callee := .builtin .append, args := #[s, x], argTypes := #[28, 28] }) (N : Nat) (e : Int) (hs : a.eval s = .slice (some ⟨N, 0, none⟩) 1 1) (hN : Blk w N 3 [.int .i64 e]) (u : Value) (m : List Int) (hx : a.eval x = u) (hu : RdI w u m)
    (hl : m.length < 900000) (h : ∀ v' w', Own w' N v' (e :: m) → Kept w w' (fun k => k = N) → K (a.put o.dst v') w') :
    if Region.wanted o (yielded ops a.tmps) = true then Oper.wp Tryz.prog o a w K Q else E := by
  rw [if_pos hw]
  obtain ⟨v', w', hr, h2, h3⟩ := run_app_read w o.type N e hN u m hu hl
  unfold Oper.wp execOp
  simp only [ho, resolve, invoke, builtin, Sem.run_bind, Sem.run_pure, Result.andThen_ok, List.map_toArray, List.map_cons, List.map_nil, hs, hx, hr]
  exact h v' w' h2 h3

/-- From where an event may read. -/
def choiceW (es : List Ev) (d : List Bool) (ord : List (List Int)) (i : Nat) : List Int :=
  let l := -1 :: ord.getD (ev es i).loc.toNat []
  if d.getD i false then (l.drop ((findFrom (fun y => decide ((i : Int) = y)) 0 l).toNat - 1)).take 1 else l
/-- All choices for the last m events, behind what was chosen. -/
def fromsW (es : List Ev) (d : List Bool) (ord : List (List Int)) : Nat → List Int → List (List Int)
  | 0, pre => [pre]
  | m + 1, pre => if isRd (ev es (pre.length : Int)) then (choiceW es d ord pre.length).flatMap fun w => fromsW es d ord m (pre ++ [w]) else fromsW es d ord m (pre ++ [-2])
def fromsTo (es : List Ev) (d : List Bool) (ord : List (List Int)) (m : Nat) (pre : List Int) (l : List Int) (k : Nat) : List (List Int) := (l.take k).flatMap fun w => fromsW es d ord m (pre ++ [w])
theorem fromsTo_succ (es : List Ev) (d : List Bool) (ord : List (List Int)) (m : Nat) (pre l : List Int) {k : Nat} (h : k < l.length) : fromsTo es d ord m pre l (k + 1) = fromsTo es d ord m pre l k ++ fromsW es d ord m (pre ++ [l[k]]) := by
  simp only [fromsTo, take_snoc h, List.flatMap_append, List.flatMap_cons, List.flatMap_nil, List.append_nil]
theorem fromsTo_le (es : List Ev) (d : List Bool) (ord : List (List Int)) (m : Nat) (pre l : List Int) (k : Nat) : fromsTo es d ord m pre l k <+: l.flatMap fun w => fromsW es d ord m (pre ++ [w]) := by
  conv => rhs; rw [← List.take_append_drop k l, List.flatMap_append]
  exact List.prefix_append _ _
abbrev fwalkV (bp by_ bf bw bo bd : Nat) : Value := .func (.func 65) #[] #[.pointer (some ⟨bp, 0, none⟩), .pointer (some ⟨by_, 0, none⟩), .pointer (some ⟨bf, 0, none⟩), .pointer (some ⟨bw, 0, none⟩), .pointer (some ⟨bo, 0, none⟩), .pointer (some ⟨bd, 0, none⟩)]
/-- What the walk has captured. -/
structure FCap (W : World) (T : Nat → Prop) (l : Nat) (es : List Ev) (pv : Value) (d : List Bool) (dv : Value) (ord : List (List Int)) (ov : Value) (bp by_ bf bw bo bd F : Nat) : Prop where
  y : Blk W by_ 118 [.func (.yield l) #[] #[]]
  p : Blk W bp 65 [pv]
  f : Blk W bf 28 [.slice (some ⟨F, 0, none⟩) es.length es.length]
  w : Blk W bw 91 [fwalkV bp by_ bf bw bo bd]
  o : Blk W bo 33 [ov]
  dn : Blk W bd 32 [dv]
  rd : RdE W pv es
  rdd : RdB W dv d
  rdo : RdL W T ov ord
  sy : ¬ T by_
  sp : ¬ T bp
  sf : ¬ T bf
  sw : ¬ T bw
  so : ¬ T bo
  sd : ¬ T bd
  sv : ∀ g, pv.ownBlock = some g → ¬ T g
  sdv : ∀ g, dv.ownBlock = some g → ¬ T g
theorem FCap.keep {W W' : World} {T : Nat → Prop} {l : Nat} {es : List Ev} {pv : Value} {d : List Bool} {dv : Value} {ord : List (List Int)} {ov : Value} {bp by_ bf bw bo bd F : Nat} (h : FCap W T l es pv d dv ord ov bp by_ bf bw bo bd F) (k : Kept W W' T) : FCap W' T l es pv d dv ord ov bp by_ bf bw bo bd F :=
  ⟨h.y.keep k h.sy, h.p.keep k h.sp, h.f.keep k h.sf, h.w.keep k h.sw, h.o.keep k h.so, h.dn.keep k h.sd, h.rd.keep k h.sv, Rd.keep h.rdd k h.sdv, h.rdo.keep k, h.sy, h.sp, h.sf, h.sw, h.so, h.sd, h.sv, h.sdv⟩
theorem FCap.below {W W' : World} {T : Nat → Prop} {l : Nat} {es : List Ev} {pv : Value} {d : List Bool} {dv : Value} {ord : List (List Int)} {ov : Value} {bp by_ bf bw bo bd F : Nat} (h : FCap W T l es pv d dv ord ov bp by_ bf bw bo bd F) (k : Below W.heap.size W W') : FCap W' T l es pv d dv ord ov bp by_ bf bw bo bd F := h.keep (Kept.of_below k _)
/-- The list under way. -/
def FLie (W : World) (F n : Nat) (pre : List Int) : Prop := ∃ cs : List Int, Blk W F 3 (ints cs) ∧ cs.length = n ∧ cs.take pre.length = pre
theorem FLie.below {W W' : World} {F n : Nat} {pre : List Int} (h : FLie W F n pre) (k : Below W.heap.size W W') : FLie W' F n pre := by
  obtain ⟨cs, h1, h2, h3⟩ := h; exact ⟨cs, h1.below k, h2, h3⟩
theorem FLie.shorter {W : World} {F n : Nat} {pre : List Int} {x : Int} (h : FLie W F n (pre ++ [x])) : FLie W F n pre := by
  obtain ⟨cs, h1, h2, h3⟩ := h
  refine ⟨cs, h1, h2, ?_⟩
  have := congrArg (List.take pre.length) h3
  rwa [List.take_take, List.take_append_of_le_length (Nat.le_refl _), List.take_length, List.length_append, Nat.min_eq_left (by omega)] at this
theorem FLie.set {W : World} {F n : Nat} {pre : List Int} (h : FLie W F n pre) (hn : pre.length < n) (x : Int) : FLie (W.setCell ⟨F, pre.length, none⟩ (.int .i64 x)) F n (pre ++ [x]) := by
  obtain ⟨cs, h1, h2, h3⟩ := h
  refine ⟨cs.set pre.length x, by rw [ints_set]; exact h1.set _ _, by rw [List.length_set, h2], ?_⟩
  rw [List.length_append, List.length_singleton, take_snoc (by rw [List.length_set, h2]; exact hn), List.take_set_of_le (Nat.le_refl _), h3, List.getElem_set_self]
theorem FLie.cell {W : World} {F n : Nat} {pre : List Int} (h : FLie W F n pre) (hn : pre.length < n) : ∃ y : Int, W.cell? ⟨F, pre.length, none⟩ = some (.int .i64 y) ∧ W.frozen? ⟨F, pre.length, none⟩ = false ∧ F < W.heap.size := by
  obtain ⟨cs, h1, h2, h3⟩ := h
  exact ⟨_, h1.cell _ (ints_at cs pre.length (by omega)), h1.free _, h1.lt⟩
/-- What the walk leaves. -/
def FWalked (T : Nat → Prop) (J Jx : List (List Int) → World → Prop) (xs pre ys : List (List Int)) (F n : Nat) (p : List Int) (W : World) (e : Ending) (W' : World) : Prop :=
  ∃ b, e = .returned (.bool b) ∧ ((b = true ∧ J (pre ++ ys) W' ∧ FLie W' F n p) ∨ (b = false ∧ ∃ q, q <+: xs ∧ Jx q W')) ∧ Kept W W' T
abbrev FArgs (bp by_ bf bw bo bd : Nat) (i : Int) : Array Value := #[.int .i64 i, .pointer (some ⟨bp, 0, none⟩), .pointer (some ⟨by_, 0, none⟩), .pointer (some ⟨bf, 0, none⟩), .pointer (some ⟨bw, 0, none⟩), .pointer (some ⟨bo, 0, none⟩), .pointer (some ⟨bd, 0, none⟩)]
set_option maxHeartbeats 2000000 in
theorem fwalk_zero {l B : Nat} {S T : Nat → Prop} {J Jx : List (List Int) → World → Prop} {xs : List (List Int)} {es : List Ev} {pv : Value} {d : List Bool} {dv : Value} {ord : List (List Int)} {ov : Value} {bp by_ bf bw bo bd F : Nat} (hJ : Abide B J) (hST : ∀ k, S k → T k)
    (hSF : ¬ S F) (hY : ∀ pre x vs W1, J pre W1 → (pre ++ [x]) <+: xs → (∃ v, vs = #[v] ∧ Own W1 B v x) → YieldAt Fence.wide 9 Tryz.prog l vs W1 fun e W' =>
      (e = .returned (.bool true) ∧ J (pre ++ [x]) W' ∧ Kept W1 W' S) ∨ (e = .returned (.bool false) ∧ Jx (pre ++ [x]) W' ∧ Kept W1 W' S))
    {p : List Int} {pre : List (List Int)} {W : World} (hc : FCap W T l es pv d dv ord ov bp by_ bf bw bo bd F) (hB : B ≤ W.heap.size) (hp : p.length = es.length) (hn : es.length ≤ 40) (hf : FLie W F es.length p) (hj : J pre W) (hx : (pre ++ [p]) <+: xs) :
    CallsIn Fence.wide 9 Tryz.prog 65 (FArgs bp by_ bf bw bo bd (p.length : Int)) W (FWalked T J Jx xs pre [p] F es.length p W) := by
  obtain ⟨A, c, rfl, hc1, hc2⟩ := hc.rd.shape
  obtain ⟨cs, hfb, hfl, hft⟩ := hf
  have hcs : cs = p := by rw [← hft, hp, ← hfl, List.take_length]
  subst hcs
  have hown : Own W 0 (.slice (some ⟨F, 0, none⟩) es.length es.length) cs := by
    refine ⟨by simp [ints], .inr ⟨F, es.length, (ints cs).toArray, by rw [hp], Nat.zero_le _, hfb, by rw [hp]; exact Nat.le_refl _, by simp [maxLen]; omega, by simp [ints, hp], List.take_of_length_le (by simp [ints])⟩⟩
  have hy0 := hc.y.cell 0 rfl
  have hp0 := hc.p.cell 0 rfl
  have hf0 := hc.f.cell 0 rfl
  have hpe : ((cs.length : Int) == (es.length : Int)) = true := beq_iff_eq.2 (by omega)
  have hlen : cs.length < 1000000 := by omega
  have HC := Lib.hid hc
  have HO := Lib.hid hown
  have HP := Lib.hid hp
  have HFB := Lib.hid hfb
  have HST := Lib.hid hST
  have HSF := Lib.hid hSF
  clear hc hown hp hfb hft hfl hST hSF
  refine callsIn_wide.2 ?_
  unfold FArgs
  go_enter Tryz.func65, Tryz.ntmps65
  go_upto_region 2 with fail
  refine wpIn_wide (n := 9).1 ?_
  have hmix : Tryz.prog.follows Departure.mixedOrders = true := by kernel_rfl
  gi_region_with_o (first | (refine (roundN hR).mono ?_; rintro e W3 h3; obtain ⟨bb, rfl, hb3, hk3⟩ := round_of h3) | (refine ⟨trivial, ?_⟩; gi_at_call 66; refine (callsIn_wide.2 (iclone_any (HO.out.below ((Below.refl _ W).drew)) hlen)).mono ?_; rintro e w' ⟨u, rfl, hown, hbel0⟩; have hbel : Below W.heap.size W w' := ((Below.refl _ W).drew).trans hbel0; have hj1 := hJ _ _ _ hj (hbel.mono hB); have hy1 := (HC.out.below hbel).y.cell 0 rfl; obtain ⟨fn, tmps, assign, body, hy, hR⟩ := hY pre cs #[u] w' hj1 hx ⟨u, rfl, Row.mono hown hB⟩))
  all_goals have hkw : Kept W W3 T := (Kept.of_below hbel _).trans (hk3.mono (fun k _ h => HST.out k h)) (fun _ _ h => h)
  all_goals have hfl : FLie W3 F es.length cs := ⟨cs, (HFB.out.below hbel).keep hk3 HSF.out, HP.out, List.take_length⟩
  all_goals have HFL := Lib.hid hfl
  all_goals have HKW := Lib.hid hkw
  all_goals clear hfl hkw hk3
  all_goals rcases hb3 with ⟨rfl, hJ3⟩ | ⟨rfl, hJ3⟩
  all_goals go_wp2
  all_goals go_ret
  all_goals first | exact ⟨_, rfl, .inl ⟨rfl, hJ3, HFL.out⟩, HKW.out⟩ | exact ⟨_, rfl, .inr ⟨rfl, _, hx, hJ3⟩, HKW.out⟩
theorem findFrom_in {x : Int} : ∀ (l : List Int) (k : Nat), x ∈ l → ∃ j : Nat, findFrom (fun y => decide (x = y)) k l = ((k + j : Nat) : Int) ∧ j < l.length
  | [], _, h => by cases h
  | y :: t, k, h => by
    by_cases hx : x = y
    · exact ⟨0, by rw [findFrom, if_pos (decide_eq_true hx)]; rfl, by simp⟩
    · rcases List.mem_cons.1 h with h | h
      · exact absurd h hx
      · obtain ⟨j, hj, hl⟩ := findFrom_in t (k + 1) h
        refine ⟨j + 1, ?_, by simpa using hl⟩
        rw [findFrom, if_neg (by simpa using hx), hj]
        congr 1; omega
theorem findFrom_front {o : List Int} {x : Int} (h0 : 0 ≤ x) (h : x ∈ o) : ∃ j : Nat, findFrom (fun y => decide (x = y)) 0 (-1 :: o) = ((j : Nat) : Int) + 1 ∧ j < o.length := by
  obtain ⟨j, hj, hl⟩ := findFrom_in o 1 h
  refine ⟨j, ?_, hl⟩
  rw [findFrom, if_neg (by simp; omega), hj]; omega
/-- The walk's contract for the last m events. -/
def FWalkAt (l B : Nat) (S T : Nat → Prop) (J Jx : List (List Int) → World → Prop) (xs : List (List Int)) (es : List Ev) (pv : Value) (d : List Bool) (dv : Value) (ord : List (List Int)) (ov : Value) (bp by_ bf bw bo bd F m : Nat) : Prop :=
  ∀ (p : List Int) (pre : List (List Int)) (W : World), p.length + m = es.length → FCap W T l es pv d dv ord ov bp by_ bf bw bo bd F → B ≤ W.heap.size → (∀ k, T k → k < W.heap.size) → FLie W F es.length p → J pre W → (pre ++ fromsW es d ord m p) <+: xs →
    CallsIn Fence.wide 9 Tryz.prog 65 (FArgs bp by_ bf bw bo bd (p.length : Int)) W (FWalked T J Jx xs pre (fromsW es d ord m p) F es.length p W)
/-- What is asked of the orders. -/
structure OrdOk (es : List Ev) (d : List Bool) (ord : List (List Int)) : Prop where
  dl : d.length = es.length
  ol : ord.length = 3
  lc : ∀ i : Nat, i < es.length → 0 ≤ (ev es (i : Int)).loc ∧ (ev es (i : Int)).loc < 3
  mem : ∀ i : Nat, i < es.length → d.getD i false = true → isRd (ev es (i : Int)) = true → (i : Int) ∈ ord.getD (ev es (i : Int)).loc.toNat []
  len : ∀ k, (ord.getD k []).length < 100000
set_option maxHeartbeats 4000000 in
theorem fwalk_succ {l B : Nat} {S T : Nat → Prop} {J Jx : List (List Int) → World → Prop} {xs : List (List Int)} {es : List Ev} {pv : Value} {d : List Bool} {dv : Value} {ord : List (List Int)} {ov : Value} {bp by_ bf bw bo bd F : Nat} (hJ : Abide B J)
    (hTF : T F) (hBF : B ≤ F) (hok : OrdOk es d ord) (hn : es.length ≤ 40) {m : Nat} (IH : FWalkAt l B S T J Jx xs es pv d dv ord ov bp by_ bf bw bo bd F m) : FWalkAt l B S T J Jx xs es pv d dv ord ov bp by_ bf bw bo bd F (m + 1) := by
  intro p pre W hpm hc hB hTl hf hj hx
  obtain ⟨A, c, rfl, hc1, hc2⟩ := hc.rd.shape
  obtain ⟨Ad, cd, rfl, hcd1, hcd2⟩ := hc.rdd.shape
  obtain ⟨Ao, co, rfl, hco1, hco2⟩ := hc.rdo.shape
  have hi : p.length < es.length := by omega
  have hy0 := hc.y.cell 0 rfl
  have hp0 := hc.p.cell 0 rfl
  have hf0 := hc.f.cell 0 rfl
  have hw0 := hc.w.cell 0 rfl
  have ho0 := hc.o.cell 0 rfl
  have hd0 := hc.dn.cell 0 rfl
  have hpe : ((p.length : Int) == (es.length : Int)) = false := beq_eq_false_iff_ne.2 (by omega)
  obtain ⟨b, off, rfl, hb, x0, x1, x2, x3, x4, x5⟩ := RdE.at_ hc.rd hi
  obtain ⟨yold, fy, ff, hFl⟩ := hf.cell hi
  obtain ⟨lc1, lc2⟩ := hok.lc _ hi
  have HC := Lib.hid hc
  have HF := Lib.hid hf
  have HJ := Lib.hid hj
  have HX := Lib.hid hx
  have HOK := Lib.hid hok
  have HT := Lib.hid hTl
  have HPM := Lib.hid hpm
  have HIH := Lib.hid IH
  have i1 : (0 : Int) ≤ (p.length : Int) := by omega
  have i2 : (p.length : Int) < (es.length : Int) := by omega
  have HI := Lib.hid hi
  have hTF' := Lib.hid hTF
  have hJ' := Lib.hid hJ
  clear hc hf hj hx hok hTl hpm IH hi hTF hJ
  have hnext : ∀ (W1 : World) (x : Int), Kept W W1 T → FLie W1 F es.length (p ++ [x]) → ∀ (pre1 : List (List Int)), J pre1 W1 → (pre1 ++ fromsW es d ord m (p ++ [x])) <+: xs →
      CallsIn Fence.wide 9 Tryz.prog 65 (FArgs bp by_ bf bw bo bd ((p.length : Int) + 1)) W1 (FWalked T J Jx xs pre1 (fromsW es d ord m (p ++ [x])) F es.length (p ++ [x]) W1) := fun W1 x k1 f1 pre1 j1 x1 => by
    have := HIH.out (p ++ [x]) pre1 W1 (by have := HPM.out; simp; omega) (HC.out.keep k1) (Nat.le_trans hB k1.size) (fun k hk => Nat.lt_of_lt_of_le (HT.out k hk) k1.size) f1 j1 x1
    simpa using this
  have HN := Lib.hid hnext
  clear hnext HIH
  obtain ⟨i, hip⟩ : ∃ i, p.length = i := ⟨_, rfl⟩
  obtain ⟨E, hE⟩ : ∃ E, ev es ((p.length : Nat) : Int) = E := ⟨_, rfl⟩
  rw [hE] at x0 x1 x2 x3 x4 x5 lc1 lc2
  have HEE := Lib.hid hE
  rw [hip] at hpe fy ff i1 i2 x0 x1 x2 x3 x4 x5
  have HIP := Lib.hid hip
  clear hE
  have hwrap : IntKind.i64.wrap ((i : Int) + 1) = (i : Int) + 1 := by rw [IntKind.wrap_i64]; omega
  cases hrd : isRd E with
  | false =>
    have HRD := Lib.hid hrd
    clear hrd
    have hw1 : ∀ W1, Below W.heap.size W W1 → W1.cell? ⟨bf, 0, none⟩ = some (.slice (some ⟨F, 0, none⟩) es.length es.length) ∧ W1.cell? ⟨F, i, none⟩ = some (.int .i64 yold) ∧ W1.frozen? ⟨F, i, none⟩ = false ∧
        (W1.setCell ⟨F, i, none⟩ (.int .i64 (-2))).cell? ⟨bw, 0, none⟩ = some (fwalkV bp by_ bf bw bo bd) ∧ Hid (CallsIn Fence.wide 9 Tryz.prog 65 (FArgs bp by_ bf bw bo bd ((i : Int) + 1)) (W1.setCell ⟨F, i, none⟩ (.int .i64 (-2))) (FWalked T J Jx xs pre (fromsW es d ord (m + 1) p) F es.length p W)) := fun W1 hb1 => by
      have c1 := HC.out.below hb1
      have f1 := HF.out.below hb1
      have k1 : Kept W (W1.setCell ⟨F, i, none⟩ (.int .i64 (-2))) T := (Kept.of_below hb1 T).setCell (.inl hTF'.out) _
      have bs : Below B W (W1.setCell ⟨F, i, none⟩ (.int .i64 (-2))) := (hb1.mono hB).setCell (p := ⟨F, i, none⟩) hBF _
      refine ⟨c1.f.cell 0 rfl, (World.cell?_of_block (hb1.block F hFl)).trans fy, ?_, (HC.out.keep k1).w.cell 0 rfl, Lib.hid ?_⟩
      · obtain ⟨y, _, h, _⟩ := f1.cell HI.out
        rw [HIP.out] at h; exact h
      · have he : fromsW es d ord (m + 1) p = fromsW es d ord m (p ++ [-2]) := by rw [fromsW, HEE.out, HRD.out]; rfl
        have f2 := f1.set HI.out (-2)
        rw [HIP.out] at f2
        have h := HN.out _ (-2) k1 f2 pre (hJ'.out _ _ _ HJ.out bs) (by rw [← he]; exact HX.out)
        rw [HIP.out] at h
        refine h.mono ?_
        rintro e W' ⟨b, rfl, h1, h2⟩
        rw [he]
        refine ⟨b, rfl, ?_, k1.trans h2 (fun _ _ h => h)⟩
        rcases h1 with ⟨h, h3, h4⟩ | h
        · exact .inl ⟨h, h3, h4.shorter⟩
        · exact .inr h
    have HW1 := Lib.hid hw1
    clear hip hw1
    refine callsIn_wide.2 ?_
    unfold FArgs at HW1 ⊢
    rw [HIP.out]
    go_enter Tryz.func65, Tryz.ntmps65
    go_wp2_with (first | (go_at_call 45; refine (reads_any (e := E)).mono ?_; rintro e1 w1 ⟨rfl, hb1⟩; rw [HRD.out]; obtain ⟨q1, q2, q3, q4, q5⟩ := HW1.out w1 hb1) | (go_at_call 65; refine (callsIn_wide.1 q5.out).mono ?_; rintro e4 w4 ⟨bb, rfl, h4⟩; have H4 := Lib.hid h4; clear h4))
    go_ret
    exact ⟨bb, rfl, H4.out⟩
  | true =>
    have HRD := Lib.hid hrd
    clear hrd
    obtain ⟨lk, hlk⟩ : ∃ lk : Nat, E.loc = (lk : Int) := ⟨E.loc.toNat, by omega⟩
    have l1 : (0 : Int) ≤ (lk : Int) := by omega
    have l2 : (lk : Int) < (ord.length : Int) := by rw [HOK.out.ol]; omega
    have hlk2 : lk < ord.length := by omega
    have hdi : i < d.length := by have := HOK.out.dl; have := HI.out; have := HIP.out; omega
    obtain ⟨b2, off2, rfl, hb2, hdc⟩ := HC.out.rdd.one hdi
    have d0 := hdc.trans (bools_at d i hdi)
    obtain ⟨b3, off3, A3, c3, rfl, o0, hc31, hc32, hro, hso⟩ := HC.out.rdo.at_ hlk2
    have hlen3 : (ord.getD lk []).length < 100000 := HOK.out.len lk
    have hw1 : ∀ W1, Below W.heap.size W W1 → W1.cell? ⟨bo, 0, none⟩ = some (.slice (some ⟨b3, off3, none⟩) ord.length co) ∧ W1.cell? ⟨bp, 0, none⟩ = some (.slice (some ⟨b, off, none⟩) es.length c) ∧ W1.cell? ⟨b, off + i * 6 + 1, none⟩ = some (.int .i64 (lk : Int)) ∧
        W1.cell? ⟨b3, off3 + lk, none⟩ = some (.slice A3 (ord.getD lk []).length c3) := fun W1 hb1 => by
      refine ⟨(HC.out.below hb1).o.cell 0 rfl, (HC.out.below hb1).p.cell 0 rfl, (World.cell?_of_block (hb1.block b hb)).trans (x1.trans (by rw [hlk])), ?_⟩
      obtain ⟨us, r1, r2, r3, r4⟩ := HC.out.rdo
      obtain ⟨b9, off9, hA, hb9, hc9⟩ := r1.one hlk2
      injection hA with hA
      injection hA with e1 e2
      subst e1 e2
      exact (World.cell?_of_block (hb1.block _ hb9)).trans o0
    have hru : ∀ W1, Below W.heap.size W W1 → RdI W1 (.slice A3 (ord.getD lk []).length c3) (ord.getD lk []) := fun W1 hb1 => Rd.below hro hb1
    have hdd : ∀ W1, Below W.heap.size W W1 → W1.cell? ⟨bd, 0, none⟩ = some (.slice (some ⟨b2, off2, none⟩) d.length cd) ∧ W1.cell? ⟨b2, off2 + i, none⟩ = some (.bool d[i]) := fun W1 hb1 => ⟨(HC.out.below hb1).dn.cell 0 rfl, (World.cell?_of_block (hb1.block b2 hb2)).trans d0⟩
    have HW1 := Lib.hid hw1
    have HRU := Lib.hid hru
    have HDD := Lib.hid hdd
    obtain ⟨o, hoe⟩ : ∃ o, ord.getD lk [] = o := ⟨_, rfl⟩
    obtain ⟨di, hdie⟩ : ∃ di, d[i] = di := ⟨_, rfl⟩
    rw [hoe] at o0 hc31 hlen3 HW1 HRU
    rw [hdie] at HDD d0
    have HOE := Lib.hid hoe
    have HDI := Lib.hid (show d.getD i false = di by rw [List.getD, List.getElem?_eq_getElem hdi, hdie]; rfl)
    have HLK := Lib.hid hlk
    clear hip hw1 hru hdd hoe hdie hlk hdc hro hso lc1 lc2
    refine callsIn_wide.2 ?_
    unfold FArgs
    rw [HIP.out]
    go_enter Tryz.func65, Tryz.ntmps65
    go_upto_region 6 with (go_at_call 45; refine (reads_any (e := E)).mono ?_; rintro e1 w1 ⟨rfl, hb1⟩; rw [HRD.out]; obtain ⟨q1, q2, q3, q4⟩ := HW1.out w1 hb1; have hbd : Below W.heap.size W w1.drew := hb1.drew)
    go_region_held3? (fun w' => w'.cell? ⟨bo, 0, none⟩ = some (.slice (some ⟨b3, off3, none⟩) ord.length co) ∧ w'.cell? ⟨bp, 0, none⟩ = some (.slice (some ⟨b, off, none⟩) es.length c) ∧ w'.cell? ⟨b, off + i * 6 + 1, none⟩ = some (.int .i64 (lk : Int)) ∧ w'.cell? ⟨b3, off3 + lk, none⟩ = some (.slice A3 o.length c3))
      (first | exact HW1.out _ hbd | exact HW1.out _ (hbd.alloc hbd.size _) | exact HW1.out _ hb6)
      (first | (refine step_app_read (by rfl) _ _ (by rfl) w1.heap.size (-1) (by rfl) (Blk.new w1.drew 3 [.int .i64 (-1)]) _ o (by rfl) (HRU.out _ (hbd.alloc hbd.size _)) (by omega) ?_; intro v6 w6 hown6 hk6; have hb6 : Below W.heap.size W w6 := (hbd.alloc hbd.size _).trans (hk6.below (by have := hb1.size; simp; omega) (fun k e => by rw [e]; exact hb1.size))))
    obtain ⟨e7, e8⟩ := HDD.out w6 hb6
    have hnT : ∀ k, W.heap.size ≤ k → ¬ T k := fun k hk ht => by have := HT.out k ht; omega
    have hr6 := Row.rd hown6
    obtain ⟨A6, c6, rfl, hc61, hc62⟩ := hr6.shape
    have ht6 : ∀ g, (Value.slice A6 (-1 :: o).length c6).ownBlock = some g → ¬ T g := fun g hg => hnT g (Nat.le_trans hb1.size (Row.at_lt hown6 hg).1)
    have HR6 := Lib.hid hr6
    have HT6 := Lib.hid ht6
    have HB6 := Lib.hid hb6
    clear hown6 hk6 hbd hr6 ht6
    obtain ⟨L, hL⟩ : ∃ L, (-1 :: o) = L := ⟨_, rfl⟩
    have HLE := Lib.hid hL
    rw [hL] at HR6 HT6 hc61
    have hj6 := Lib.hid (hJ'.out _ _ _ HJ.out (hb6.mono hB))
    have hf6 := Lib.hid (HF.out.below hb6)
    have hc6 := Lib.hid (HC.out.below hb6)
    have hT6 : Hid (∀ k, T k → k < w6.heap.size) := Lib.hid (fun k hk => Nat.lt_of_lt_of_le (HT.out k hk) hb6.size)
    cases di
    case false =>
      rw [hL]
      clear hL
      go_upto_region 10 with fail
      have HCH : Hid (choiceW es d ord i = L) := Lib.hid (by
        rw [choiceW]
        rw [HIP.out] at HEE
        rw [HDI.out, HEE.out, HLK.out]
        simp only [Int.toNat_natCast]
        rw [HOE.out, HLE.out]; rfl)
      obtain ⟨n9, hn9⟩ : ∃ n9, L.length = n9 := ⟨_, rfl⟩
      have HR6 : Hid (Rd w6 (.slice A6 L.length c6) L.length 1 (ints L)) := HR6
      rw [hn9] at HR6
      rw [hn9] at HT6 hc61 ⊢
      have HNL := Lib.hid hn9
      have hn9b : n9 ≤ 100000 := by rw [← HLE.out] at hn9; simp at hn9; omega
      clear hn9
      have hfw : fromsW es d ord (m + 1) p = L.flatMap fun w => fromsW es d ord m (p ++ [w]) := by
        rw [fromsW, HEE.out, HRD.out, HIP.out, HCH.out]; rfl
      have HFW := Lib.hid hfw
      clear hfw
      go_wp2
      go_loopw [59] (fun i' wr => ∃ k : Nat, k ≤ n9 ∧ i' = .int .i64 k ∧ J (pre ++ fromsTo es d ord m p L k) wr ∧ Kept w6 wr T ∧ FLie wr F es.length p) (fun i' _ => n9 - (intOf i').toNat)
      case atStart => exact ⟨0, Nat.zero_le _, rfl, by simpa [fromsTo] using hj6.out, Kept.refl _ _, hf6.out⟩
      case round =>
        obtain ⟨k, hk, rfl, hjk, hkk, hfk⟩ := hrel
        have HJK := Lib.hid hjk
        have HKK := Lib.hid hkk
        have HFK := Lib.hid hfk
        by_cases hlt : k < n9
        · obtain ⟨b9, off9, hA, hb9, hcell⟩ := (Rd.keep HR6.out hkk HT6.out).one hlt
          have hkL : k < L.length := by rw [HNL.out]; exact hlt
          have d9 := hcell.trans (ints_at L k hkL)
          obtain ⟨x, hx⟩ : ∃ x, L[k] = x := ⟨_, rfl⟩
          rw [hx] at d9
          have q1 := (hc6.out.keep hkk).f.cell 0 rfl
          obtain ⟨y9, q2, q3, hF9⟩ := hfk.cell HI.out
          rw [HIP.out] at q2 q3
          have k1 : Kept w6 (wr.setCell ⟨F, i, none⟩ (.int .i64 x)) T := hkk.setCell (.inl hTF'.out) _
          have q4 := (hc6.out.keep k1).w.cell 0 rfl
          have f2 := hfk.set HI.out x
          rw [HIP.out] at f2
          have hj2 := hJ'.out _ _ _ hjk ((Below.refl B wr).setCell (p := ⟨F, i, none⟩) hBF (.int .i64 x))
          have hstep := fromsTo_succ es d ord m p L hkL
          rw [hx] at hstep
          have HS := Lib.hid hstep
          have kW : Kept W (wr.setCell ⟨F, i, none⟩ (.int .i64 x)) T := (Kept.of_below HB6.out T).trans k1 (fun _ _ h => h)
          have q5 := HN.out _ x kW f2 (pre ++ fromsTo es d ord m p L k) hj2 (by
            rw [List.append_assoc, ← hstep]
            refine List.IsPrefix.trans ?_ HX.out
            rw [HFW.out]
            exact (List.prefix_append_right_inj _).2 (fromsTo_le _ _ _ _ _ _ _))
          rw [HIP.out] at q5
          have Q5 := Lib.hid q5
          have K1 := Lib.hid k1
          have KW := Lib.hid kW
          subst hA
          clear hjk hkk hfk hcell hkL hx k1 f2 hj2 hstep kW q5
          go_upto_if 71 with (go_at_call 65; refine (callsIn_wide.1 Q5.out).mono ?_; rintro e4 w4 ⟨bb, rfl, h4, hk4⟩)
          have H4 := Lib.hid h4
          have HK4 := Lib.hid hk4
          clear h4 hk4
          cases bb
          case true =>
            have h4 : Hid (J (pre ++ fromsTo es d ord m p L (k + 1)) w4 ∧ FLie w4 F es.length (p ++ [x])) := Lib.hid (by
              rw [HS.out, ← List.append_assoc]
              rcases H4.out with ⟨_, h⟩ | ⟨h, _⟩
              · exact h
              · cases h)
            clear H4
            go_wp2
            go_roundw
            case measure => simp [intOf]; omega
            case rel => exact ⟨k + 1, by omega, by go_num, h4.out.1, K1.out.trans HK4.out (fun _ _ h => h), h4.out.2.shorter⟩
          case false =>
            have h4 : Hid (∃ q, q <+: xs ∧ Jx q w4) := Lib.hid (by
              rcases H4.out with ⟨h, _⟩ | ⟨_, h⟩
              · cases h
              · exact h)
            clear H4
            go_wp2
            go_ret
            exact ⟨_, rfl, .inr ⟨rfl, h4.out⟩, KW.out.trans HK4.out (fun _ _ h => h)⟩
        · have hkn : k = n9 := by omega
          have HKN := Lib.hid hkn
          clear hkn hjk hkk hfk
          have hend : Hid (J (pre ++ fromsW es d ord (m + 1) p) wr) := Lib.hid (by
            have := HJK.out
            rw [fromsTo, HKN.out, ← HNL.out, List.take_length] at this
            rw [HFW.out]; exact this)
          go_wp2
          go_ret
          exact ⟨_, rfl, .inl ⟨rfl, hend.out, HFK.out⟩, (Kept.of_below HB6.out T).trans HKK.out (fun _ _ h => h)⟩
    case true =>
      obtain ⟨j, hj1, hj2⟩ := findFrom_front (o := o) (x := (i : Int)) i1 (by have := HOK.out.mem i (by have := HI.out; have := HIP.out; omega) HDI.out (by rw [HIP.out] at HEE; rw [HEE.out]; exact HRD.out); rw [HIP.out] at HEE; rw [HEE.out, HLK.out] at this; rw [← HOE.out]; exact this)
      have hjL : j + 1 ≤ L.length := by rw [← hL]; simp; omega
      have j3 : (j : Int) + 1 ≤ (c6 : Int) := by omega
      rw [hL] at hj1 ⊢
      clear hL
      go_upto_region 10 with (go_at_call 67; refine (index_any HR6.out).mono ?_; rintro e7 w7 ⟨rfl, rfl⟩; rw [hj1])
      have HCH : Hid (choiceW es d ord i = (L.take (j + 1)).drop j) := Lib.hid (by
        rw [choiceW]
        rw [HIP.out] at HEE
        rw [HDI.out, HEE.out, HLK.out]
        simp only [Int.toNat_natCast, if_true]
        rw [HOE.out, HLE.out, hj1, List.drop_take, show ((j : Int) + 1).toNat - 1 = j by omega, show j + 1 - j = 1 by omega])
      have hR9 : Rd w6 (.slice (Option.map (fun x => x.add j) A6) 1 (c6 - j)) 1 1 (ints ((L.take (j + 1)).drop j)) := by
        have := Rd.piece HR6.out (i := j) (j := j + 1) (by omega) hjL (Option.map (fun x => x.add j) A6) (fun a ha _ => by rw [ha]; rfl)
        rwa [show j + 1 - j = 1 by omega] at this
      have hT9 : ∀ g, (Value.slice (Option.map (fun x => x.add j) A6) 1 (c6 - j)).ownBlock = some g → ¬ T g := fun g hg => by
        cases A6 with
        | none => cases hg
        | some a => refine HT6.out g ?_; simp only [Value.ownBlock, Option.map_some, Option.some.injEq] at hg ⊢; rw [← hg]; unfold Addr.add; split <;> rfl
      have HNL : Hid (((L.take (j + 1)).drop j).length = 1) := Lib.hid (by simp; omega)
      clear HR6 HT6
      have HR6 := Lib.hid hR9
      have HT6 := Lib.hid hT9
      clear hR9 hT9 hj1
      obtain ⟨A9, hA9⟩ : ∃ A9, (Option.map (fun x => x.add j) A6) = A9 := ⟨_, rfl⟩
      obtain ⟨c9, hc9⟩ : ∃ c9, c6 - j = c9 := ⟨_, rfl⟩
      have hc92 : c9 ≤ 9223372036854775807 := by omega
      have hc91 : 1 ≤ c9 := by omega
      rw [hA9, hc9] at HR6 HT6
      rw [hA9]
      obtain ⟨L9, hL9⟩ : ∃ L9, (L.take (j + 1)).drop j = L9 := ⟨_, rfl⟩
      rw [hL9] at HR6 HCH HNL
      clear hA9 hc9 hL9
      have hfw : fromsW es d ord (m + 1) p = L9.flatMap fun w => fromsW es d ord m (p ++ [w]) := by
        rw [fromsW, HEE.out, HRD.out, HIP.out, HCH.out]; rfl
      have HFW := Lib.hid hfw
      clear hfw
      go_wp2
      go_loopw [59] (fun i' wr => ∃ k : Nat, k ≤ 1 ∧ i' = .int .i64 k ∧ J (pre ++ fromsTo es d ord m p L9 k) wr ∧ Kept w6 wr T ∧ FLie wr F es.length p) (fun i' _ => 1 - (intOf i').toNat)
      case atStart => exact ⟨0, Nat.zero_le _, rfl, by simpa [fromsTo] using hj6.out, Kept.refl _ _, hf6.out⟩
      case round =>
        obtain ⟨k, hk, rfl, hjk, hkk, hfk⟩ := hrel
        have HJK := Lib.hid hjk
        have HKK := Lib.hid hkk
        have HFK := Lib.hid hfk
        by_cases hlt : k < 1
        · obtain ⟨b9, off9, hA, hb9, hcell⟩ := (Rd.keep HR6.out hkk HT6.out).one hlt
          have hkL : k < L9.length := by rw [HNL.out]; exact hlt
          have d9 := hcell.trans (ints_at L9 k hkL)
          obtain ⟨x, hx⟩ : ∃ x, L9[k] = x := ⟨_, rfl⟩
          rw [hx] at d9
          have q1 := (hc6.out.keep hkk).f.cell 0 rfl
          obtain ⟨y9, q2, q3, hF9⟩ := hfk.cell HI.out
          rw [HIP.out] at q2 q3
          have k1 : Kept w6 (wr.setCell ⟨F, i, none⟩ (.int .i64 x)) T := hkk.setCell (.inl hTF'.out) _
          have q4 := (hc6.out.keep k1).w.cell 0 rfl
          have f2 := hfk.set HI.out x
          rw [HIP.out] at f2
          have hj2 := hJ'.out _ _ _ hjk ((Below.refl B wr).setCell (p := ⟨F, i, none⟩) hBF (.int .i64 x))
          have hstep := fromsTo_succ es d ord m p L9 hkL
          rw [hx] at hstep
          have HS := Lib.hid hstep
          have kW : Kept W (wr.setCell ⟨F, i, none⟩ (.int .i64 x)) T := (Kept.of_below HB6.out T).trans k1 (fun _ _ h => h)
          have q5 := HN.out _ x kW f2 (pre ++ fromsTo es d ord m p L9 k) hj2 (by
            rw [List.append_assoc, ← hstep]
            refine List.IsPrefix.trans ?_ HX.out
            rw [HFW.out]
            exact (List.prefix_append_right_inj _).2 (fromsTo_le _ _ _ _ _ _ _))
          rw [HIP.out] at q5
          have Q5 := Lib.hid q5
          have K1 := Lib.hid k1
          have KW := Lib.hid kW
          subst hA
          clear hjk hkk hfk hcell hkL hx k1 f2 hj2 hstep kW q5
          go_upto_if 71 with (go_at_call 65; refine (callsIn_wide.1 Q5.out).mono ?_; rintro e4 w4 ⟨bb, rfl, h4, hk4⟩)
          have H4 := Lib.hid h4
          have HK4 := Lib.hid hk4
          clear h4 hk4
          cases bb
          case true =>
            have h4 : Hid (J (pre ++ fromsTo es d ord m p L9 (k + 1)) w4 ∧ FLie w4 F es.length (p ++ [x])) := Lib.hid (by
              rw [HS.out, ← List.append_assoc]
              rcases H4.out with ⟨_, h⟩ | ⟨h, _⟩
              · exact h
              · cases h)
            clear H4
            go_wp2
            go_roundw
            case measure => simp [intOf]; omega
            case rel => exact ⟨k + 1, by omega, by go_num, h4.out.1, K1.out.trans HK4.out (fun _ _ h => h), h4.out.2.shorter⟩
          case false =>
            have h4 : Hid (∃ q, q <+: xs ∧ Jx q w4) := Lib.hid (by
              rcases H4.out with ⟨h, _⟩ | ⟨_, h⟩
              · cases h
              · exact h)
            clear H4
            go_wp2
            go_ret
            exact ⟨_, rfl, .inr ⟨rfl, h4.out⟩, KW.out.trans HK4.out (fun _ _ h => h)⟩
        · have hkn : k = 1 := by omega
          have HKN := Lib.hid hkn
          clear hkn hjk hkk hfk
          have hend : Hid (J (pre ++ fromsW es d ord (m + 1) p) wr) := Lib.hid (by
            have := HJK.out
            rw [fromsTo, HKN.out, ← HNL.out, List.take_length] at this
            rw [HFW.out]; exact this)
          go_wp2
          go_ret
          exact ⟨_, rfl, .inl ⟨rfl, hend.out, HFK.out⟩, (Kept.of_below HB6.out T).trans HKK.out (fun _ _ h => h)⟩
theorem fwalk_at {l B : Nat} {S T : Nat → Prop} {J Jx : List (List Int) → World → Prop} {xs : List (List Int)} {es : List Ev} {pv : Value} {d : List Bool} {dv : Value} {ord : List (List Int)} {ov : Value} {bp by_ bf bw bo bd F : Nat} (hJ : Abide B J)
    (hTF : T F) (hBF : B ≤ F) (hok : OrdOk es d ord) (hn : es.length ≤ 40) (hST : ∀ k, S k → T k) (hSF : ¬ S F)
    (hY : ∀ pre x vs W1, J pre W1 → (pre ++ [x]) <+: xs → (∃ v, vs = #[v] ∧ Own W1 B v x) → YieldAt Fence.wide 9 Tryz.prog l vs W1 fun e W' =>
      (e = .returned (.bool true) ∧ J (pre ++ [x]) W' ∧ Kept W1 W' S) ∨ (e = .returned (.bool false) ∧ Jx (pre ++ [x]) W' ∧ Kept W1 W' S)) :
    ∀ m, FWalkAt l B S T J Jx xs es pv d dv ord ov bp by_ bf bw bo bd F m
  | 0 => fun p pre W hpm hc hB _ hf hj hx => fwalk_zero hJ hST hSF hY hc hB (by omega) hn hf hj hx
  | m + 1 => fwalk_succ hJ hTF hBF hok hn (fwalk_at hJ hTF hBF hok hn hST hSF hY m)
set_option maxHeartbeats 1000000 in
/-- **The iterator's contract.** -/
theorem froms_gives {w : World} {S0 : Nat → Prop} {es : List Ev} {d : List Bool} {ord : List (List Int)} {pv dv ov : Value} {bp bo bd : Nat} (hp : Blk w bp 65 [pv]) (hr : RdE w pv es) (hdb : Blk w bd 32 [dv]) (hd : RdB w dv d) (hob : Blk w bo 33 [ov]) (ho : RdL w (fun k => S0 k ∨ w.heap.size ≤ k) ov ord)
    (hsp : ¬ S0 bp) (hsd : ¬ S0 bd) (hso : ¬ S0 bo) (hsv : ∀ g, pv.ownBlock = some g → ¬ S0 g) (hsdv : ∀ g, dv.ownBlock = some g → ¬ S0 g) (hS0 : ∀ k, S0 k → k < w.heap.size)
    (hplt : ∀ g, pv.ownBlock = some g → g < w.heap.size) (hdlt : ∀ g, dv.ownBlock = some g → g < w.heap.size) (hok : OrdOk es d ord) (hn : es.length ≤ 40) :
    Gives Tryz.prog 64 #[.pointer (some ⟨bp, 0, none⟩), .pointer (some ⟨bo, 0, none⟩), .pointer (some ⟨bd, 0, none⟩)] S0 (RepI w.heap.size) (fromsW es d ord es.length []) w := by
  intro l J Jx W S hS hSl hK hJ hJx hY h0
  have hs : ∀ k, k < w.heap.size → ¬ S0 k → ¬ S k := fun k hk h1 h2 => h1 (hS k hk h2)
  have hw : w.heap.size ≤ W.heap.size := hK.size
  obtain ⟨A, c, rfl, hc1, hc2⟩ := hr.shape
  obtain ⟨T, hT⟩ : ∃ T : Nat → Prop, T = fun k => S k ∨ k = W.heap.size + 1 := ⟨_, rfl⟩
  have hTS : ∀ k, T k → S0 k ∨ w.heap.size ≤ k := fun k hk => by
    rw [hT] at hk
    by_cases hlt : k < w.heap.size
    · rcases hk with h | h
      · exact .inl (hS k hlt h)
      · omega
    · exact .inr (by omega)
  have nT : ∀ k, k < w.heap.size → ¬ S0 k → ¬ T k := fun k hk h1 h2 => (hTS k h2).elim h1 (fun h => by omega)
  obtain ⟨WA, hWA⟩ : ∃ WA, W.alloc (.cells #[.func (.yield l) #[] #[]] 118) = WA := ⟨_, rfl⟩
  have szA : WA.heap.size = W.heap.size + 1 := by rw [← hWA]; simp
  have bA : Below W.heap.size W WA := by rw [← hWA]; exact (Below.refl _ W).alloc (Nat.le_refl _) _
  obtain ⟨WB, hWB⟩ : ∃ WB, (WA.alloc (.cells (Array.replicate es.length (Value.int .i64 0)) 3)).alloc (.cells #[.slice (some ⟨WA.heap.size, 0, none⟩) es.length es.length] 28) = WB := ⟨_, rfl⟩
  have szB : WB.heap.size = W.heap.size + 3 := by rw [← hWB]; simp; omega
  have bB : Below WA.heap.size WA WB := by rw [← hWB]; exact ((Below.refl _ WA).alloc (Nat.le_refl _) _).alloc (by simp) _
  obtain ⟨W0, hW0⟩ : ∃ W0, WB.alloc (.cells #[fwalkV bp W.heap.size (WA.heap.size + 1) WB.heap.size bo bd] 91) = W0 := ⟨_, rfl⟩
  have bel : Below W.heap.size W W0 := (bA.trans (bB.mono (by omega))).trans (by rw [← hW0]; exact (Below.refl _ WB).alloc (by omega) _)
  have hgt : ∀ k, W.heap.size ≤ k → k ≠ W.heap.size + 1 → ¬ T k := fun k hk hne ht => by
    rw [hT] at ht
    rcases ht with h | h
    · have := hSl k h; omega
    · exact hne h
  have hcap : FCap W0 T l es (.slice A es.length c) d dv ord ov bp W.heap.size (WA.heap.size + 1) WB.heap.size bo bd WA.heap.size := by
    refine ⟨?_, (hp.keep hK hsp).below bel, ?_, ?_, (hob.keep hK hso).below bel, (hdb.keep hK hsd).below bel, (hr.keep hK hsv).below bel, (Rd.keep hd hK hsdv).below bel, ?_, hgt _ (Nat.le_refl _) (by omega), nT _ hp.lt hsp, hgt _ (by omega) (by omega), hgt _ (by omega) (by omega), nT _ hob.lt hso, nT _ hdb.lt hsd,
      fun g hg => nT g (hplt g hg) (hsv g hg), fun g hg => nT g (hdlt g hg) (hsdv g hg)⟩
    · have h1 : Blk WA W.heap.size 118 [.func (.yield l) #[] #[]] := by rw [← hWA]; exact Blk.new W 118 _
      have h2 := (h1.below bB).alloc (.cells #[fwalkV bp W.heap.size (WA.heap.size + 1) WB.heap.size bo bd] 91)
      rwa [hW0] at h2
    · have h1 : Blk WB (WA.heap.size + 1) 28 [.slice (some ⟨WA.heap.size, 0, none⟩) es.length es.length] := by rw [← hWB]; exact blk_at_new 28 [.slice (some ⟨WA.heap.size, 0, none⟩) es.length es.length] (by simp)
      have h2 := h1.alloc (.cells #[fwalkV bp W.heap.size (WA.heap.size + 1) WB.heap.size bo bd] 91)
      rwa [hW0] at h2
    · rw [← hW0]; exact Blk.new WB 91 [fwalkV bp W.heap.size (WA.heap.size + 1) WB.heap.size bo bd]
    · exact (((ho.keep2 hK (fun k hk => .inl hk)).mono hTS)).below bel
  have hfl : FLie W0 WA.heap.size es.length [] := by
    refine ⟨List.replicate es.length 0, ?_, by simp, rfl⟩
    have h1 : Blk (WA.alloc (.cells (Array.replicate es.length (Value.int .i64 0)) 3)) WA.heap.size 3 (ints (List.replicate es.length 0)) := by
      have := Blk.new WA 3 (List.replicate es.length (Value.int .i64 0))
      simpa [ints] using this
    have h2 := h1.alloc (.cells #[.slice (some ⟨WA.heap.size, 0, none⟩) es.length es.length] 28)
    rw [hWB] at h2
    have h3 := h2.alloc (.cells #[fwalkV bp W.heap.size (WA.heap.size + 1) WB.heap.size bo bd] 91)
    rwa [hW0] at h3
  have HW : Hid (CallsIn Fence.wide 9 Tryz.prog 65 (FArgs bp W.heap.size (WA.heap.size + 1) WB.heap.size bo bd 0) W0
      (FWalked T J Jx (fromsW es d ord es.length []) [] (fromsW es d ord es.length []) WA.heap.size es.length [] W0)) :=
    Lib.hid (fwalk_at (B := W.heap.size) (S := S) hJ (by rw [hT]; exact .inr (by omega)) (by omega) hok hn (fun k hk => by rw [hT]; exact .inl hk) (fun h => by have := hSl _ h; omega)
      (fun pre x vs W1 hj hx hv => hY pre x vs W1 hj hx (by obtain ⟨v, h1, h2⟩ := hv; exact ⟨v, h1, Row.mono h2 hw⟩)) es.length [] [] W0 (by simp) hcap bel.size
      (fun k hk => by rw [hT] at hk; have := bel.size; rcases hk with h | h; have := hSl k h; omega; rw [← hW0]; simp; omega) hfl (hJ _ _ _ h0 bel) (by simp))
  have hlc : WA.cell? ⟨bp, 0, none⟩ = some (.slice A es.length c) := ((hp.keep hK hsp).below bA).cell 0 rfl
  have hwc : W0.cell? ⟨WB.heap.size, 0, none⟩ = some (fwalkV bp W.heap.size (WA.heap.size + 1) WB.heap.size bo bd) := hcap.w.cell 0 rfl
  have mk := run_make_rows (P := Tryz.prog) 28 3 (.int .i64 0) 1 8 Tryz.underlying28 info3 es.length (by omega) (by omega)
  rw [madeCells_one (.int .i64 0) rfl] at mk
  have HXA := Lib.hid hWA
  have HXB := Lib.hid hWB
  have HX0 := Lib.hid hW0
  have HSA := Lib.hid szA
  have HSB := Lib.hid szB
  clear hcap hfl bel bA bB szA szB hWA hWB hW0 hgt nT hTS hT hs hw hp hr hdb hd hob ho hsp hsd hso hsv hsdv hS0 hplt hdlt hok hS hSl hK hJ hJx hY h0
  refine callsIn_wide.2 ?_
  show Calls Tryz.prog 64 #[.func (.yield l) #[] #[], .pointer (some ⟨bp, 0, none⟩), .pointer (some ⟨bo, 0, none⟩), .pointer (some ⟨bd, 0, none⟩)] W _
  unfold FArgs at HW
  go_enter Tryz.func64, Tryz.ntmps64
  go_upto_region 1 with fail
  rw [HXA.out]
  go_upto_region 2 with fail
  rw [HXB.out]
  go_upto_region 4 with fail
  rw [HX0.out]
  go_wp2_with (go_at_call 65; refine (callsIn_wide.1 HW.out).mono ?_; rintro e W2 ⟨b, rfl, h2, _⟩)
  go_returns
  refine ⟨⟨_, rfl⟩, ?_⟩
  rcases h2 with ⟨_, h2, _⟩ | ⟨_, h2⟩
  · exact .inl h2
  · exact .inr h2
end Go.Proofs.YtkddckfgdiemkaaGreat
