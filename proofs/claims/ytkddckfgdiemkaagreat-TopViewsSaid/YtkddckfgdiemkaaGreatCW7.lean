/-
  The iterator over all orders of the writes of the locations from one on.
-/
import Derived.Test.YtkddckfgdiemkaaGreatCW6
set_option linter.unusedVariables false
set_option linter.unusedSimpArgs false
namespace Go.Proofs.YtkddckfgdiemkaaGreat
open Go.RowKit Go.Shelf Mem
set_option maxRecDepth 100000
attribute [local go_sem] Oper.semAt_some

theorem info28 : (Tryz.prog.info? 28).map (fun i => (i.zero, i.size, i.bytes)) = some (some (.slice none 0 0), 1, 24) := by kernel_rfl
/-- A list of lists of numbers, of a call's own. -/
def OwnL (W : World) (B : Nat) (v : Value) (x : List (List Int)) : Prop := ∃ us, Row W B 28 1 v x.length us ∧ us.length = x.length ∧ ∀ k u, us[k]? = some u → Own W B u (x.getD k [])
theorem OwnL.keep {W W' : World} {S : Nat → Prop} {B : Nat} {v : Value} {x : List (List Int)} (h : OwnL W B v x) (k : Kept W W' S) (hs : ∀ g, B ≤ g → ¬ S g) : OwnL W' B v x := by
  obtain ⟨us, h1, h2, h3⟩ := h
  exact ⟨us, Row.keep h1 k (fun g hg => hs g (Row.at_lt h1 hg).1), h2, fun j u hu => Row.keep (h3 j u hu) k (fun g hg => hs g (Row.at_lt (h3 j u hu) hg).1)⟩
theorem OwnL.below {W W' : World} {B : Nat} {v : Value} {x : List (List Int)} (h : OwnL W B v x) (k : Below W.heap.size W W') : OwnL W' B v x := h.keep (Kept.of_below k (fun _ => False)) (fun _ _ => id)
theorem OwnL.mono {W : World} {B B' : Nat} {v : Value} {x : List (List Int)} (h : OwnL W B v x) (hB : B' ≤ B) : OwnL W B' v x := by
  obtain ⟨us, h1, h2, h3⟩ := h
  exact ⟨us, Row.mono h1 hB, h2, fun j u hu => Row.mono (h3 j u hu) hB⟩
theorem OwnL.nil (W : World) (B : Nat) : OwnL W B (.slice none 0 0) [] := ⟨[], World.ownsRow_nil W B 28 1, rfl, fun k u hu => by cases hu⟩
def RepL (B : Nat) (W : World) (vs : Array Value) (x : List (List Int)) : Prop := ∃ v, vs = #[v] ∧ OwnL W B v x
/-- The orders of the writes of the last n locations. -/
def ordersW (es : List Ev) (d : List Bool) : Nat → List (List (List Int))
  | 0 => [[]]
  | n + 1 => (mergesW (thOf es) (writersF es d ((2 : Int) - n)).length [] (writersF es d ((2 : Int) - n))).flatMap fun l => (ordersW es d n).map fun rest => l :: rest
theorem ordersW_len (es : List Ev) (d : List Bool) : ∀ (n : Nat) (y : List (List Int)), y ∈ ordersW es d n → y.length = n
  | 0, y, h => by simp [ordersW] at h; simp [h]
  | n + 1, y, h => by
    simp only [ordersW, List.mem_flatMap, List.mem_map] at h
    obtain ⟨l, _, r, hr, rfl⟩ := h
    simp [ordersW_len es d n r hr]
set_option maxHeartbeats 1000000 in
theorem orders_zero {w : World} {S0 : Nat → Prop} {es : List Ev} {d : List Bool} {bl bp bd : Nat} (hl : Blk w bl 3 [.int .i64 3]) (hsl : ¬ S0 bl) :
    Gives Tryz.prog 62 #[.pointer (some ⟨bl, 0, none⟩), .pointer (some ⟨bp, 0, none⟩), .pointer (some ⟨bd, 0, none⟩)] S0 (RepL w.heap.size) (ordersW es d 0) w := by
  intro l J Jx W S hS hSl hK hJ hJx hY h0
  have L1 := (hl.keep hK hsl).cell 0 rfl
  have hbl : bl < W.heap.size := (hl.keep hK hsl).lt
  have b1 : Below W.heap.size W (W.alloc (.cells #[.func (.yield l) #[] #[]] 116)) := (Below.refl _ W).alloc (Nat.le_refl _) _
  have hj1 := hJ _ _ _ h0 b1
  obtain ⟨fn, tmps, assign, body, hy, hR⟩ := hY [] [] #[.slice none 0 0] (W.alloc (.cells #[.func (.yield l) #[] #[]] 116)) hj1 (by simp [ordersW]) ⟨_, rfl, OwnL.nil _ _⟩
  have HR := Lib.hid hR
  clear hR hY hJ hJx h0 hj1 hS hSl hK hl hsl b1
  show CallsIn Fence.wide 9 Tryz.prog 62 #[.func (.yield l) #[] #[], .pointer (some ⟨bl, 0, none⟩), .pointer (some ⟨bp, 0, none⟩), .pointer (some ⟨bd, 0, none⟩)] W _
  refine callsIn_of_wp_marks Tryz.func62 rfl trivial ?_ rfl
  simp only [Tryz.ntmps62, List.size_toArray, List.length_cons, List.length_nil, Nat.reduceAdd, Nat.reduceSub, Array.replicate_succ, Array.replicate_zero, List.push_toArray, List.append_toArray, List.nil_append, List.cons_append]
  gi_wp2_with (refine (roundN HR.out).mono ?_; rintro e W3 h3; obtain ⟨bb, rfl, hb3, hk3⟩ := round_of h3)
  refine ⟨_, results_none rfl _ _ _, ⟨_, rfl⟩, ?_⟩
  rcases hb3 with ⟨_, h⟩ | ⟨_, h⟩
  · exact .inl h
  · exact .inr ⟨_, by simp [ordersW], h⟩
/-- 'append([][]int{l}, rest...)'. -/
theorem run_app_lists (w : World) (ty : TypeId) (B N : Nat) (lv : Value) (h1 : lv.oneCell' = true) (hN : Blk w N 28 [lv]) (hBN : B ≤ N) (hBw : B ≤ w.heap.size) (v : Value) (m : Nat) (us : List Value) (hu : ∀ u ∈ us, u.oneCell' = true) (hr : Row w B 28 1 v m us) (hm : m < 1000) :
    ∃ v' w', (Builtin.append_ #[33, 33] ty #[.slice (some ⟨N, 0, none⟩) 1 1, v]).run Tryz.prog w = .ok v' w' ∧ Row w' B 28 1 v' (1 + m) (lv :: us) ∧ Kept w w' (fun k => k = N) := by
  obtain ⟨i0, hi0, hz0, hz1, hz2⟩ := info_one info28
  have hown : Row w B 28 1 (.slice (some ⟨N, 0, none⟩) 1 1) 1 [lv] := ⟨rfl, .inr ⟨N, 1, #[lv], rfl, hBN, hN, Nat.le_refl _, by simp [maxLen], rfl, rfl⟩⟩
  rcases hr.2 with ⟨rfl, rfl⟩ | ⟨g, cap, cur, rfl, hb, hg, hc1, hc2, hc3, hc4⟩
  · have hus : us = [] := List.eq_nil_of_length_eq_zero (by have := hr.1; omega)
    subst hus
    exact ⟨_, w, run_append_owned_none (P := Tryz.prog) (w := w) B 33 ty 28 i0 1 Tryz.underlying33 hi0 _ 1 [lv] hown, hown, Kept.refl _ _⟩
  · have hcur : ∀ j u, us[j]? = some u → cur[j]? = some u := fun j u hj => by
      rw [← hc4, List.getElem?_take] at hj
      split at hj
      · simpa using hj
      · cases hj
    obtain ⟨v', w', hrun, h2, h3, h4, h5⟩ := run_append_own_at (P := Tryz.prog) w B 33 ty 28 i0 (.slice none 0 0) 1 24 Tryz.underlying33 hi0 hz0 hz1 hz2 rfl (by decide) _ 1 [lv] hown ⟨g, 0, none⟩ m cap us (by have := hr.1; omega)
      (fun j u hj => by rw [Addr.add_mid, Nat.zero_add]; exact (cell_of_row w g j cur 28 _ hg).trans (hcur j u hj)) hu (by simp only [maxLen]; omega) (by omega) hBw
    exact ⟨v', w', hrun, h2, (Kept.refl w _).grown h3 (fun k hk => .inl (by simp [Value.ownBlock] at hk; exact hk.symm))⟩
/-- What a region does at the wide fence it does in a round. -/
theorem wpAnyIn_inRound {n : Nat} {P : Program} {ops : Array Oper} {Q : Exit → Act → World → Prop} {md : Region.Mode} {l : Nat} (hd : ∀ (i : Nat) (o : Oper), ops[i]? = some o → ∀ c, o.op ≠ .defer c) :
    ∀ (fuel : Nat) (listed : Array Bool) (a : Act) (w : World), wpAnyIn Fence.wide n P md ops Q fuel listed a w → wpAnyIn (Fence.wide.inRound l) n P md ops Q fuel listed a w
  | 0, _, _, _, h => h
  | fuel + 1, listed, a, w, h => by
    refine ⟨h.1, fun i hi => ?_⟩
    have h2 := h.2 i hi
    unfold wpOpIn at h2 ⊢
    split
    · rename_i hn
      simp only [hn] at h2
      exact wpAnyIn_inRound hd fuel _ _ _ h2
    · rename_i o ho
      simp only [ho] at h2
      split
      · rename_i hw
        rw [if_pos hw] at h2
        have h3 := Oper.wpIn_mono (fun a w hh => wpAnyIn_inRound (l := l) hd fuel _ a w hh) h2
        unfold Oper.wpIn at h3 ⊢
        refine ⟨h3.1, ?_⟩
        have e1 : o.semAt (Fence.wide.inRound l).round a.eval = execOp a.eval o := Oper.semAt_eq _ _ _ (hd i o ho)
        have e2 : o.semAt Fence.wide.round a.eval = execOp a.eval o := Oper.semAt_eq _ _ _ (hd i o ho)
        rw [e1]
        rw [e2] at h3
        exact h3.2
      · rename_i hw
        rw [if_neg hw] at h2
        exact ⟨h2.1, wpAnyIn_inRound hd fuel _ _ _ h2.2⟩
def noDefer (ops : Array Oper) : Bool := ops.toList.all fun o => match o.op with | .defer _ => false | _ => true
theorem noDefer_spec {ops : Array Oper} (h : noDefer ops = true) : ∀ (i : Nat) (o : Oper), ops[i]? = some o → ∀ c, o.op ≠ .defer c := fun i o ho c hc => by
  have hm : o ∈ ops.toList := by
    rw [← Array.getElem?_toList] at ho
    exact List.mem_of_getElem? ho
  have := List.all_eq_true.1 h o hm
  rw [hc] at this
  cases this
/-- The append's step. -/
theorem stepIn_run {F : Fence} {n : Nat} {P : Program} {ops : Array Oper} {o : Oper} {a : Act} {w : World} {K : Act → World → Prop} {Q : Exit → Act → World → Prop} {E : Prop} (hro : F.round = none) (hg : o.guard = none) (s x : Operand) (t : TypeId)
    (ho : o.op = .call { callee := .builtin .append, args := #[s, x], argTypes := #[t, t] }) (vs vx : Value) (hs : a.eval s = vs) (hx : a.eval x = vx) (hab : ∀ f, o.about P w a.eval = some f → F.fn f) {v' : Value} {w' : World}
    (hr : (Builtin.append_ #[t, t] o.type #[vs, vx]).run P w = .ok v' w') (hK : K (a.put o.dst v') w') : if Region.wanted o (yielded ops a.tmps) = true then o.wpIn F n P a w K Q else E := by
  have hw : Region.wanted o (yielded ops a.tmps) = true := by simp [Region.wanted, hg]
  rw [if_pos hw]
  unfold Oper.wpIn
  refine ⟨hab, ?_⟩
  rw [hro, Oper.semAt_none]
  unfold execOp
  simp only [ho, resolve, invoke, builtin, Sem.run_bind, Sem.run_pure, Result.andThen_ok, List.map_toArray, List.map_cons, List.map_nil, hs, hx, hr]
  exact hK
theorem abide_kept {β : Type} {W3 : World} {S : Nat → Prop} : Abide W3.heap.size (fun (_ : β) Wc => Kept W3 Wc S) := fun s A C h hb =>
  ⟨hb.os.trans h.os, hb.tape.trans h.tape, hb.output.trans h.output, Nat.le_trans h.size hb.size, fun k hk hs => (hb.block k hk).trans (h.block k hk hs)⟩
/-- What has come when the lists of pre are through. -/
def ordTo (es : List Ev) (d : List Bool) (n : Nat) (pre : List (List Int)) : List (List (List Int)) := pre.flatMap fun l => (ordersW es d n).map fun rest => l :: rest
theorem ordTo_snoc (es : List Ev) (d : List Bool) (n : Nat) (pre : List (List Int)) (x : List Int) : ordTo es d n (pre ++ [x]) = ordTo es d n pre ++ (ordersW es d n).map (fun rest => x :: rest) := by simp [ordTo]
theorem ordTo_pre (es : List Ev) (d : List Bool) (n : Nat) {pre xs : List (List Int)} (h : pre <+: xs) : ordTo es d n pre <+: ordTo es d n xs := by
  obtain ⟨t, rfl⟩ := h
  exact ⟨ordTo es d n t, by simp [ordTo]⟩
/-- The contract of the iterator from the location 3 - n on. -/
def OrdersGive (es : List Ev) (d : List Bool) (n : Nat) : Prop :=
  ∀ (w : World) (S0 : Nat → Prop) (bl bp bd : Nat) (pv dv : Value), Blk w bl 3 [.int .i64 ((3 : Int) - n)] → Blk w bp 65 [pv] → RdE w pv es → Blk w bd 32 [dv] → RdB w dv d → ¬ S0 bl → ¬ S0 bp → ¬ S0 bd → (∀ g, pv.ownBlock = some g → ¬ S0 g) → (∀ g, dv.ownBlock = some g → ¬ S0 g) →
    (∀ g, pv.ownBlock = some g → g < w.heap.size) → (∀ g, dv.ownBlock = some g → g < w.heap.size) →
    Gives Tryz.prog 62 #[.pointer (some ⟨bl, 0, none⟩), .pointer (some ⟨bp, 0, none⟩), .pointer (some ⟨bd, 0, none⟩)] S0 (RepL w.heap.size) (ordersW es d n) w
set_option maxHeartbeats 4000000 in
theorem orders_succ {es : List Ev} {d : List Bool} {n : Nat} (hd3 : n < 3) (hdl : d.length = es.length) (hn : es.length ≤ 40) (IH : OrdersGive es d n) : OrdersGive es d (n + 1) := by
  intro w S0 bl bp bd pv dv hl hp hr hd hdr hsl hsp hsd hsv hsdv hplt hdlt l J Jx W S hS hSl hK hJ hJx hY h0
  have hs : ∀ k, k < w.heap.size → ¬ S0 k → ¬ S k := fun k hk h1 h2 => h1 (hS k hk h2)
  have hw : w.heap.size ≤ W.heap.size := hK.size
  obtain ⟨A, c, rfl, hc1, hc2⟩ := hr.shape
  obtain ⟨Ad, cd, rfl, hcd1, hcd2⟩ := hdr.shape
  have nl : ¬ S bl := hs _ hl.lt hsl
  have np : ¬ S bp := hs _ hp.lt hsp
  have nd : ¬ S bd := hs _ hd.lt hsd
  have npv : ∀ g, (Value.slice A es.length c).ownBlock = some g → ¬ S g := fun g hg => hs g (hplt g hg) (hsv g hg)
  have ndv : ∀ g, (Value.slice Ad d.length cd).ownBlock = some g → ¬ S g := fun g hg => hs g (hdlt g hg) (hsdv g hg)
  have L1 := Lib.hid (hl.keep hK hsl)
  have P1 := Lib.hid (hp.keep hK hsp)
  have D1 := Lib.hid (hd.keep hK hsd)
  have R1 := Lib.hid (hr.keep hK hsv)
  have RD1 := Lib.hid (Rd.keep hdr hK hsdv)
  have l0 := L1.out.cell 0 rfl
  have hbl : bl < W.heap.size := L1.out.lt
  have hne : (((3 : Int) - (n + 1 : Nat)) == 3) = false := beq_eq_false_iff_ne.2 (by omega)
  generalize hloc : ((3 : Int) - (n + 1 : Nat)) = loc at *
  show CallsIn Fence.wide 9 Tryz.prog 62 #[.func (.yield l) #[] #[], .pointer (some ⟨bl, 0, none⟩), .pointer (some ⟨bp, 0, none⟩), .pointer (some ⟨bd, 0, none⟩)] W _
  refine callsIn_of_wp_marks Tryz.func62 rfl trivial ?_ rfl
  simp only [Tryz.ntmps62, List.size_toArray, List.length_cons, List.length_nil, Nat.reduceAdd, Nat.reduceSub, Array.replicate_succ, Array.replicate_zero, List.push_toArray, List.append_toArray, List.nil_append, List.cons_append]
  have HN := Lib.hid (And.intro npv (And.intro (fun g (hg : (Value.slice A es.length c).ownBlock = some g) => Nat.lt_of_lt_of_le (hplt g hg) hw) (And.intro ndv (And.intro (fun g (hg : (Value.slice Ad d.length cd).ownBlock = some g) => Nat.lt_of_lt_of_le (hdlt g hg) hw) (And.intro nl (And.intro np nd))))))
  have Hdl := Lib.hid hdl
  have HH := Lib.hid (And.intro hs (And.intro hSl (And.intro hJ (And.intro hJx (And.intro hY h0)))))
  clear hl hp hr hd hdr hsl hsp hsd hsv hsdv hplt hdlt hs hS hSl hK hJ hJx hY h0 nl np nd npv ndv hdl
  gi_wp2
  have b1 : Below W.heap.size W (W.alloc (.cells #[.func (.yield l) #[] #[]] 116)) := (Below.refl _ W).alloc (Nat.le_refl _) _
  have Y1 := Lib.hid (Blk.new W 116 [.func (.yield l) #[] #[]])
  obtain ⟨WA, hWA⟩ : ∃ WA, W.alloc (.cells #[.func (.yield l) #[] #[]] 116) = WA := ⟨_, rfl⟩
  rw [hWA] at b1 Y1 ⊢
  clear hWA
  have B1 := Lib.hid b1
  have hcells : ∀ W0, Below WA.heap.size WA W0 → W0.cell? ⟨bp, 0, none⟩ = some (.slice A es.length c) ∧ W0.cell? ⟨bd, 0, none⟩ = some (.slice Ad d.length cd) ∧ W0.cell? ⟨bl, 0, none⟩ = some (.int .i64 loc) := fun W0 h0 =>
    ⟨((P1.out.below b1).below h0).cell 0 rfl, ((D1.out.below b1).below h0).cell 0 rfl, ((L1.out.below b1).below h0).cell 0 rfl⟩
  have HC := Lib.hid hcells
  have hc0 := hcells WA (Below.refl _ _)
  have hwr : ∀ W0, Below WA.heap.size WA W0 → Calls Tryz.prog 63 #[.slice A es.length c, .slice Ad d.length cd, .int .i64 loc] W0 (Made (writersF es d loc) W0) := fun W0 h0 =>
    writers_any ((R1.out.below b1).below h0) ((RD1.out.below b1).below h0) Hdl.out (by omega)
  have HWR := Lib.hid hwr
  have bd1 : Below WA.heap.size WA WA.drew := (Below.refl _ WA).drew
  clear b1 hcells hwr
  obtain ⟨hc01, hc02, hc03⟩ := hc0
  refine wpIn_wide.2 ?_
  go_region_held3? (fun w' => w'.cell? ⟨bp, 0, none⟩ = some (.slice A es.length c) ∧ w'.cell? ⟨bd, 0, none⟩ = some (.slice Ad d.length cd) ∧ w'.cell? ⟨bl, 0, none⟩ = some (.int .i64 loc)) (first | exact HC.out _ hb5 | exact HC.out _ hb4 | exact HC.out _ bd1)
    (first
      | (go_at_call 63; refine (HWR.out _ bd1).mono ?_; rintro e2 w2 ⟨u2, rfl, hown2, hbel2⟩; obtain ⟨Au, cu, rfl, hcu1, hcu2⟩ := (Row.rd hown2).shape; have hb4 : Below WA.heap.size WA w2 := bd1.trans hbel2; dsimp only)
      | (go_at_call 41; refine merges_any.mono ?_; rintro e3 w3 ⟨rfl, hw3⟩; have hb5 : Below WA.heap.size WA w3 := by { rw [hw3]; exact (hb4.alloc hb4.size _).alloc (by have := hb4.size; simp; omega) _ }; dsimp only))
  obtain ⟨hs, hSl, hJ, hJx, hY, h0⟩ := HH.out
  have hb2s : W.heap.size ≤ w2.heap.size := Nat.le_trans B1.out.size hb4.size
  have hbW : Below W.heap.size W w3 := B1.out.trans (hb5.mono B1.out.size)
  have s3 : w3.heap.size = w2.heap.size + 2 := by rw [hw3]; simp
  have hp3 : Blk w3 w2.heap.size 65 [.slice A es.length c] := by rw [hw3]; exact (Blk.new w2 65 [.slice A es.length c]).alloc _
  have hl3 : Blk w3 (w2.heap.size + 1) 28 [.slice Au (writersF es d loc).length cu] := by rw [hw3]; exact blk_at_new 28 [.slice Au (writersF es d loc).length cu] (by simp)
  have h23 : Below w2.heap.size w2 w3 := by rw [hw3]; exact ((Below.refl _ w2).alloc (Nat.le_refl _) _).alloc (by simp) _
  have hown3 : Own w3 WA.heap.size (.slice Au (writersF es d loc).length cu) (writersF es d loc) := Row.below hown2 h23
  have hnb : ∀ k, W.heap.size ≤ k → ¬ S k := fun k hk hsk => by have := hSl k hsk; omega
  have npv : ∀ g, (Value.slice A es.length c).ownBlock = some g → ¬ S g := HN.out.1
  have HG := Lib.hid (merges_gives (w := w3) (S0 := S) hp3 (R1.out.below hbW) hl3 (Row.rd hown3) (hnb _ hb2s) npv (hnb _ (by omega)) (fun g hg => hnb _ (Nat.le_trans B1.out.size (Row.at_lt hown3 hg).1)) (fun g hg => by have := HN.out.2.1 g hg; have := hbW.size; omega) (fun g hg => (Row.at_lt hown3 hg).2)
    (fun x hx => ⟨(pickTo_mem hx).1, (pickTo_mem hx).2.1⟩) (Nat.lt_of_le_of_lt (pickTo_le _ _) (by omega)))
  have HOW : Hid (ordersW es d (n + 1) = ordTo es d n (mergesW (thOf es) (writersF es d loc).length [] (writersF es d loc))) := Lib.hid (by
    have e : ((2 : Int) - n) = loc := by omega
    rw [ordersW, e]; rfl)
  have HJ := Lib.hid hJ
  have HJx := Lib.hid hJx
  have HY := Lib.hid hY
  have HNB := Lib.hid hnb
  have BW := Lib.hid hbW
  have OW := Lib.hid hown3
  have h03 := Lib.hid (hJ _ _ _ h0 hbW)
  clear hJ hJx hY hnb hbW hown3 h0 hs npv hp3 hl3 h23 hown2 hbel2
  gi_wp2
  refine wpIn_range (gf := 68) (lb := #[.pointer (some ⟨w2.heap.size, 0, none⟩), .pointer (some ⟨w2.heap.size + 1, 0, none⟩)])
    (I := fun pre Wc => J (ordTo es d n pre) Wc ∧ Kept w3 Wc S) (Ix := fun c _ Wc => c = .ret ∧ ∃ q, q <+: ordersW es d (n + 1) ∧ Jx q Wc)
    rfl (enters_of Tryz.func68 (by kernel_rfl) rfl) HG.out (fun k hk => by have := hSl k hk; have := BW.out.size; omega)
    ((Abide.mono (B := W.heap.size) (J := fun pre Wc => J (ordTo es d n pre) Wc) (fun s A C hj hb => HJ.out _ _ _ hj hb) BW.out.size).and abide_kept)
    (fun c s A C hj hb hcs => ⟨hj.1, hj.2.imp fun q hq => ⟨hq.1, HJx.out _ _ _ hq.2 (hb.mono BW.out.size) hcs⟩⟩)
    (fun Wc vs x hv => by obtain ⟨v, rfl, _⟩ := hv; rfl) ⟨h03.out, Kept.refl _ _⟩ ?round ?done ?stop
  case round =>
    rintro l₁ pre x vs W1 hl1 hloop1 ⟨hj1, hk1⟩ hpre1 ⟨v, rfl, hv⟩
    obtain ⟨Av, cv, rfl, hcv1, hcv2⟩ := (Row.rd hv).shape
    gi_wp2
    refine ⟨(Kept.refl W1 _).alloc _, fun W₂ hk2 hsz2 hloop2 => ?_⟩
    obtain ⟨r1, hr1⟩ := hloop1
    have hl1lt : l₁ < W1.heap.size := (Array.getElem?_eq_some_iff.1 hr1).1
    have hk3 : Kept w3 W₂ S := (hk1.alloc _).trans hk2 (fun i hi e => absurd hi (by omega))
    have hBw : W.heap.size ≤ w3.heap.size := BW.out.size
    have hb12 : Below W.heap.size W1 W₂ := ((Below.refl W.heap.size W1).alloc (by have := hk1.size; omega) _).trans (hk2.below (by have := hk1.size; simp; omega) (fun k e => by omega))
    have hj2 := Lib.hid (HJ.out _ _ _ hj1 hb12)
    have X2 : Blk W₂ W1.heap.size 28 [.slice Av x.length cv] := (Blk.new W1 28 [.slice Av x.length cv]).keep hk2 (by omega)
    have P2 := (P1.out.below BW.out).keep hk3 HN.out.2.2.2.2.2.1
    have D2 := (D1.out.below BW.out).keep hk3 HN.out.2.2.2.2.2.2
    have L2 := (L1.out.below BW.out).keep hk3 HN.out.2.2.2.2.1
    have R2 := (R1.out.below BW.out).keep hk3 HN.out.1
    have RD2 := Rd.keep (RD1.out.below BW.out) hk3 HN.out.2.2.1
    have Y2 := (Y1.out.below hb5).keep hk3 (HNB.out _ (Nat.le_refl _))
    have V2 : Own W₂ w3.heap.size (.slice Av x.length cv) x := Row.keep (Row.below hv ((Below.refl _ W1).alloc (Nat.le_refl _) _)) hk2 (fun g hg e => by
      subst e
      rcases hv.2 with ⟨hn, _⟩ | ⟨g', _, cur, hv', _, hg', _⟩
      · rw [hn] at hg; cases hg
      · rw [hv'] at hg; simp [Value.ownBlock] at hg; subst hg; rw [hr1] at hg'; cases hg')
    have p2 := P2.cell 0 rfl
    have dd2 := D2.cell 0 rfl
    have ll2 := L2.cell 0 rfl
    have hw32 : w3.heap.size ≤ W₂.heap.size := hk3.size
    have hl0 : 0 ≤ loc := by omega
    have hl3' : loc ≤ 2 := by omega
    obtain ⟨r2, hr2⟩ := hloop2
    have FF := Lib.hid (And.intro hk3 (And.intro X2 (And.intro P2 (And.intro D2 (And.intro R2 (And.intro RD2 (And.intro Y2 V2)))))))
    have HR2 := Lib.hid hr2
    have HPre := Lib.hid hpre1
    have HL1 := Lib.hid hl1
    have hw31 : w3.heap.size ≤ W1.heap.size := hk1.size
    clear hk1 hj1 hv hr1 hb12 hk2 hsz2 hk3 X2 P2 D2 L2 R2 RD2 Y2 V2 hpre1 hr2 hl1lt
    gi_wp2_with (refine ⟨trivial, ?_⟩; gi_at_call 38; refine (CallsIn.inRound l₁ (callsIn_wide.2 orders_any)).mono ?_; rintro e4 W4 ⟨rfl, hw4⟩)
    obtain ⟨hk3, X2, P2, D2, R2, RD2, Y2, V2⟩ := FF.out
    obtain ⟨W5, hW5⟩ : ∃ W5, ((W₂.alloc (.cells #[.slice A es.length c] 65)).alloc (.cells #[.slice Ad d.length cd] 32)).alloc (.cells #[.int .i64 (loc + 1)] 3) = W5 := ⟨_, rfl⟩
    have hb5' : Below W₂.heap.size W₂ W5 := by rw [← hW5]; exact (((Below.refl _ W₂).alloc (Nat.le_refl _) _).alloc (by simp) _).alloc (by simp; omega) _
    have G1 : Blk W5 W₂.heap.size 65 [.slice A es.length c] := by rw [← hW5]; exact ((Blk.new W₂ 65 [.slice A es.length c]).alloc _).alloc _
    have G2 : Blk W5 (W₂.heap.size + 1) 32 [.slice Ad d.length cd] := by rw [← hW5]; exact (blk_at_new 32 [.slice Ad d.length cd] (by simp)).alloc _
    have G3 : Blk W5 (W₂.heap.size + 1 + 1) 3 [.int .i64 ((3 : Int) - n)] := by rw [← hW5, show ((3 : Int) - n) = loc + 1 by omega]; exact blk_at_new 3 [.int .i64 (loc + 1)] (by simp)
    have hWW : W.heap.size ≤ W₂.heap.size := Nat.le_trans BW.out.size hw32
    have HG2 := Lib.hid (IH W5 S (W₂.heap.size + 1 + 1) W₂.heap.size (W₂.heap.size + 1) _ _ G3 G1 (R2.below hb5') G2 (RD2.below hb5') (HNB.out _ (by omega)) (HNB.out _ (by omega)) (HNB.out _ (by omega)) HN.out.1 HN.out.2.2.1
      (fun g hg => by have := HN.out.2.1 g hg; have := hb5'.size; omega) (fun g hg => by have := HN.out.2.2.2.1 g hg; have := hb5'.size; omega))
    have hk5 : Kept w3 W5 S := hk3.then_below hb5'
    have hj5 : J (ordTo es d n pre) W5 := HJ.out _ _ _ hj2.out (hb5'.mono hWW)
    have hr5 : W5.heap[l₁]? = some (.loop r2) := (hb5'.block l₁ (Array.getElem?_eq_some_iff.1 HR2.out).1).trans HR2.out
    have X5 := Lib.hid (X2.below hb5')
    have Y5 := Lib.hid (Y2.below hb5')
    have V5 := Lib.hid (Row.below V2 hb5')
    have W5s := Lib.hid (Nat.le_trans hWW hb5'.size)
    have K5 := Lib.hid hk5
    rw [hW5]
    refine wpIn_range_in (l₀ := l₁) (r₀ := r2) (gf := 62) (lb := #[.pointer (some ⟨W₂.heap.size + 1 + 1, 0, none⟩), .pointer (some ⟨W₂.heap.size, 0, none⟩), .pointer (some ⟨W₂.heap.size + 1, 0, none⟩)])
      (I := fun (pre2 : List (List (List Int))) Wc => J (ordTo es d n pre ++ pre2.map (fun rest => x :: rest)) Wc ∧ Kept W5 Wc S) (Ix := fun c _ Wc => c = .ret ∧ (∃ q, q <+: ordersW es d (n + 1) ∧ Jx q Wc) ∧ Kept W5 Wc S)
      hr5 rfl (enters_of Tryz.func62 (by kernel_rfl) rfl) HG2.out (fun k hk => by have := hSl k hk; have := W5s.out; omega)
      ((Abide.mono (B := W.heap.size) (J := fun (pre2 : List (List (List Int))) Wc => J (ordTo es d n pre ++ pre2.map (fun rest => x :: rest)) Wc) (fun s A C hj hb => HJ.out _ _ _ hj hb) W5s.out).and abide_kept)
      (fun c s A C hj hb hcs => ⟨hj.1, hj.2.1.imp fun q hq => ⟨hq.1, HJx.out _ _ _ hq.2 (hb.mono W5s.out) hcs⟩, abide_kept (β := Unit) () _ _ hj.2.2 hb⟩)
      (fun Wc vs x hv => by obtain ⟨v, rfl, _⟩ := hv; rfl) ⟨by simpa using hj5, Kept.refl _ _⟩ ?round2 ?done2 ?stop2
    case round2 =>
      rintro l₂ pre2 y vs W6 hl2 hloop2 ⟨hj6, hk6⟩ hpre2 ⟨v2, rfl, hv2⟩
      obtain ⟨us, hrow, hul, hat⟩ := hv2
      obtain ⟨A2, c2, rfl, hc21, hc22⟩ := (Row.rd hrow).shape
      gi_wp2
      refine ⟨Kept.refl W6 _, fun W7 hk7 hsz7 hloop7 => ?_⟩
      have hmix : Tryz.prog.follows Departure.mixedOrders = true := by kernel_rfl
      have hk57 : Kept W5 W7 S := hk6.trans hk7 (fun i hi e => absurd hi (by omega))
      have hw5 := W5s.out
      have hs57 := hk57.size
      have hs56 := hk6.size
      have hj7 : J (ordTo es d n pre ++ pre2.map (fun rest => x :: rest)) W7 := HJ.out _ _ _ hj6 (hk7.below (by omega) (fun k e => by omega))
      obtain ⟨r6, hr6⟩ := hloop2
      have ne6 : ∀ {e z m : Nat} {v : Value} {ys : List Value} {B : Nat}, Row W6 B e z v m ys → ∀ g, v.ownBlock = some g → g ≠ l₂ := fun hrw g hg hgl => by
        subst hgl
        rcases hrw.2 with ⟨hn, _⟩ | ⟨g', _, cur, hv', _, hg', _⟩
        · rw [hn] at hg; cases hg
        · rw [hv'] at hg; simp [Value.ownBlock] at hg; subst hg; rw [hr6] at hg'; cases hg'
      have hrow7 : Row W7 W5.heap.size 28 1 (.slice A2 y.length c2) y.length us := Row.keep hrow hk7 (ne6 hrow)
      have hat7 : ∀ k u, us[k]? = some u → Own W7 W5.heap.size u (y.getD k []) := fun k u hu => Row.keep (hat k u hu) hk7 (ne6 (hat k u hu))
      have V7 : Own W7 w3.heap.size (.slice Av x.length cv) x := Row.keep V5.out hk57 (fun g hg => HNB.out g (Nat.le_trans BW.out.size (Row.at_lt V5.out hg).1))
      have Y7 := Y5.out.keep hk57 (HNB.out _ (Nat.le_refl _))
      have X7 := X5.out.keep hk57 (HNB.out _ (by omega))
      obtain ⟨WB, hWB⟩ : ∃ WB, W7.drew.alloc (.cells #[.slice Av x.length cv] 28) = WB := ⟨_, rfl⟩
      have b7B : Below W7.heap.size W7 WB := by rw [← hWB]; exact ((Below.refl _ W7).drew).alloc (Nat.le_refl _) _
      have NB : Blk WB W7.heap.size 28 [.slice Av x.length cv] := by rw [← hWB]; exact Blk.new W7.drew 28 [.slice Av x.length cv]
      have hyl : y.length < 1000 := by
        have := ordersW_len es d n y (hpre2.subset (List.mem_append_right _ (List.mem_singleton.2 rfl)))
        omega
      obtain ⟨v8, w8, hrun, hrow8, hk8⟩ := run_app_lists WB 33 w.heap.size W7.heap.size (.slice Av x.length cv) rfl NB (by omega) (by have := b7B.size; omega) (.slice A2 y.length c2) y.length us
        (fun u hu => by obtain ⟨k, hk⟩ := List.mem_iff_getElem?.1 hu; obtain ⟨a1, a2, rfl, _⟩ := Row.shape (hat7 k u hk); rfl) (Row.mono (Row.below hrow7 b7B) (by omega)) hyl
      have b7s := b7B.size
      have n8 : ¬ S W7.heap.size := HNB.out _ (by omega)
      have hk78 : Kept W7 w8 S := (Kept.of_below b7B S).trans hk8 (fun i hi e => absurd hi (by omega))
      have hb78 : Below W7.heap.size W7 w8 := b7B.trans (hk8.below b7s (fun k e => by omega))
      have hj8 := HJ.out _ _ _ hj7 (hb78.mono (by omega))
      have hpre8 : (ordTo es d n pre ++ pre2.map (fun rest => x :: rest)) ++ [x :: y] <+: ordersW es d (n + 1) := by
        rw [HOW.out]
        refine List.IsPrefix.trans ?_ (ordTo_pre es d n HPre.out)
        rw [ordTo_snoc, List.append_assoc]
        refine (List.prefix_append_right_inj _).2 ?_
        have := hpre2.map (fun rest => x :: rest)
        simpa using this
      have hown8 : OwnL w8 w.heap.size v8 (x :: y) := ⟨_, by simpa [Nat.add_comm] using hrow8, by simp [hul], fun k u hu => by
        match k, hu with
        | 0, hu => simp at hu; subst hu; exact Row.mono (Row.below V7 hb78) (by omega)
        | k + 1, hu => simp at hu; simpa using Row.mono (Row.below (hat7 k u hu) hb78) (by omega)⟩
      obtain ⟨fn8, tmps8, assign8, body8, hy8, hR8⟩ := HY.out _ (x :: y) #[v8] w8 hj8 hpre8 ⟨v8, rfl, hown8⟩
      have HR8 := Lib.hid hR8
      have HRUN := Lib.hid hrun
      have y7 := Y7.cell 0 rfl
      have yB := (Y7.below b7B).cell 0 rfl
      have y8 := ((Y7.below b7B).keep hk8 (Nat.ne_of_lt Y7.lt)).cell 0 rfl
      have x7 := X7.cell 0 rfl
      have FT : Hid (∀ W9 : World, J ((ordTo es d n pre ++ pre2.map (fun rest => x :: rest)) ++ [x :: y]) W9 → Kept w8 W9 S → (J (ordTo es d n pre ++ (pre2 ++ [y]).map (fun rest => x :: rest)) W9 ∧ Kept W5 W9 S) ∧ Kept W7 W9 S) := Lib.hid (fun W9 h1 h2 =>
        ⟨⟨by simpa using h1, hk57.trans (hk78.trans h2 (fun _ _ h => h)) (fun _ _ h => h)⟩, hk78.trans h2 (fun _ _ h => h)⟩)
      have FX : Hid (∀ W9 : World, Jx ((ordTo es d n pre ++ pre2.map (fun rest => x :: rest)) ++ [x :: y]) W9 → Kept w8 W9 S → (∃ q, q <+: ordersW es d (n + 1) ∧ Jx q W9) ∧ Kept W5 W9 S ∧ Kept W7 W9 S) := Lib.hid (fun W9 h1 h2 =>
        ⟨⟨_, hpre8, h1⟩, hk57.trans (hk78.trans h2 (fun _ _ h => h)) (fun _ _ h => h), hk78.trans h2 (fun _ _ h => h)⟩)
      refine wpIn_block (wpIn_seq (wpIn_region_any hmix (wpAnyIn_inRound (noDefer_spec (by kernel_rfl)) _ _ _ _ ?_)))
      clear hsz7 hpre8 hown8 hj8 hb78 hk78 hrun hrow8 hk8 hR8 b7B NB hj7 hrow7 hat7 V7 Y7 X7 hk57 hk7 hj6 hk6 ne6
      refine wpAnyIn_take (i := 3) (v := ?_) rfl rfl (by kernel_rfl) (by kernel_rfl) (by kernel_rfl) (fun _ _ _ h => h) ⟨Or.inl ⟨by rfl, ?_⟩, fun _ => rfl⟩ ?_
      rotate_left
      · intro w; go_simp; with_reducible rfl
      refine wpAnyIn_ready (rs := [0, 1]) (by kernel_rfl) (by simp) ?_
      refine AllReadyIn.cons rfl (fun K hK => ?_) ?_
      · go_simp
        refine hK _ _ ?_
        clear hK K
        refine wpAnyIn_ready (rs := [1]) (by kernel_rfl) (by simp) ?_
        refine AllReadyIn.cons rfl (fun K hK => ?_) ?_
        · go_simp
          refine hK _ _ ?_
          clear hK K
          refine wpAnyIn_ready (rs := [2]) (by kernel_rfl) (by simp) ?_
          refine AllReadyIn.cons rfl (fun K hK => ?_) ?_
          · go_simp
            refine hK _ _ ?_
            clear hK K
            refine wpAnyIn_ready (rs := [4]) (by kernel_rfl) (by simp) ?_
            refine AllReadyIn.cons rfl (fun K hK => ?_) ?_
            · refine stepIn_run rfl rfl (.tmp 26) (.tmp 27) 33 rfl _ _ rfl rfl (fun _ _ => trivial) HRUN.out ?_
              refine hK _ _ ?_
              clear hK K
              refine wpAnyIn_ready (rs := [5]) (by kernel_rfl) (by simp) ?_
              refine AllReadyIn.cons rfl (fun K hK => ?_) ?_
              · go_simp
                refine (roundN HR8.out).mono ?_
                rintro e W9 h9
                obtain ⟨bb, rfl, hb9, hk9⟩ := round_of h9
                dsimp only
                refine hK _ _ ?_
                clear hK K
                refine wpAnyIn_ready (rs := [6]) (by kernel_rfl) (by simp) ?_
                refine AllReadyIn.cons rfl (fun K hK => ?_) ?_
                · go_simp
                  refine hK _ _ ?_
                  clear hK K
                  refine wpAnyIn_done (by kernel_rfl) ?_ _
                  have HB9 := Lib.hid hb9
                  have HK9 := Lib.hid hk9
                  clear hb9 hk9
                  cases bb with
                  | true => gi_wp2; exact FT.out _ (by rcases HB9.out with ⟨_, h⟩ | ⟨h, _⟩; exact h; cases h) HK9.out
                  | false => gi_wp2; exact (fun hx => ⟨⟨rfl, hx.1, hx.2.1⟩, hx.2.2⟩) (FX.out _ (by rcases HB9.out with ⟨h, _⟩ | ⟨_, h⟩; cases h; exact h) HK9.out)
                exact AllReadyIn.nil
              exact AllReadyIn.nil
            exact AllReadyIn.nil
          exact AllReadyIn.nil
        exact AllReadyIn.nil
      refine AllReadyIn.cons rfl (fun K hK => ?_) ?_
      · go_simp
        refine hK _ _ ?_
        clear hK K
        refine wpAnyIn_ready (rs := [0, 2]) (by kernel_rfl) (by simp) ?_
        refine AllReadyIn.cons rfl (fun K hK => ?_) ?_
        · go_simp
          refine hK _ _ ?_
          clear hK K
          refine wpAnyIn_ready (rs := [2]) (by kernel_rfl) (by simp) ?_
          refine AllReadyIn.cons rfl (fun K hK => ?_) ?_
          · go_simp
            refine hK _ _ ?_
            clear hK K
            refine wpAnyIn_ready (rs := [4]) (by kernel_rfl) (by simp) ?_
            refine AllReadyIn.cons rfl (fun K hK => ?_) ?_
            · refine stepIn_run rfl rfl (.tmp 26) (.tmp 27) 33 rfl _ _ rfl rfl (fun _ _ => trivial) HRUN.out ?_
              refine hK _ _ ?_
              clear hK K
              refine wpAnyIn_ready (rs := [5]) (by kernel_rfl) (by simp) ?_
              refine AllReadyIn.cons rfl (fun K hK => ?_) ?_
              · go_simp
                refine (roundN HR8.out).mono ?_
                rintro e W9 h9
                obtain ⟨bb, rfl, hb9, hk9⟩ := round_of h9
                dsimp only
                refine hK _ _ ?_
                clear hK K
                refine wpAnyIn_ready (rs := [6]) (by kernel_rfl) (by simp) ?_
                refine AllReadyIn.cons rfl (fun K hK => ?_) ?_
                · go_simp
                  refine hK _ _ ?_
                  clear hK K
                  refine wpAnyIn_done (by kernel_rfl) ?_ _
                  have HB9 := Lib.hid hb9
                  have HK9 := Lib.hid hk9
                  clear hb9 hk9
                  cases bb with
                  | true => gi_wp2; exact FT.out _ (by rcases HB9.out with ⟨_, h⟩ | ⟨h, _⟩; exact h; cases h) HK9.out
                  | false => gi_wp2; exact (fun hx => ⟨⟨rfl, hx.1, hx.2.1⟩, hx.2.2⟩) (FX.out _ (by rcases HB9.out with ⟨h, _⟩ | ⟨_, h⟩; cases h; exact h) HK9.out)
                exact AllReadyIn.nil
              exact AllReadyIn.nil
            exact AllReadyIn.nil
          exact AllReadyIn.nil
        refine AllReadyIn.cons rfl (fun K hK => ?_) ?_
        · go_simp
          refine hK _ _ ?_
          clear hK K
          refine wpAnyIn_ready (rs := [0, 4]) (by kernel_rfl) (by simp) ?_
          refine AllReadyIn.cons rfl (fun K hK => ?_) ?_
          · go_simp
            refine hK _ _ ?_
            clear hK K
            refine wpAnyIn_ready (rs := [4]) (by kernel_rfl) (by simp) ?_
            refine AllReadyIn.cons rfl (fun K hK => ?_) ?_
            · refine stepIn_run rfl rfl (.tmp 26) (.tmp 27) 33 rfl _ _ rfl rfl (fun _ _ => trivial) HRUN.out ?_
              refine hK _ _ ?_
              clear hK K
              refine wpAnyIn_ready (rs := [5]) (by kernel_rfl) (by simp) ?_
              refine AllReadyIn.cons rfl (fun K hK => ?_) ?_
              · go_simp
                refine (roundN HR8.out).mono ?_
                rintro e W9 h9
                obtain ⟨bb, rfl, hb9, hk9⟩ := round_of h9
                dsimp only
                refine hK _ _ ?_
                clear hK K
                refine wpAnyIn_ready (rs := [6]) (by kernel_rfl) (by simp) ?_
                refine AllReadyIn.cons rfl (fun K hK => ?_) ?_
                · go_simp
                  refine hK _ _ ?_
                  clear hK K
                  refine wpAnyIn_done (by kernel_rfl) ?_ _
                  have HB9 := Lib.hid hb9
                  have HK9 := Lib.hid hk9
                  clear hb9 hk9
                  cases bb with
                  | true => gi_wp2; exact FT.out _ (by rcases HB9.out with ⟨_, h⟩ | ⟨h, _⟩; exact h; cases h) HK9.out
                  | false => gi_wp2; exact (fun hx => ⟨⟨rfl, hx.1, hx.2.1⟩, hx.2.2⟩) (FX.out _ (by rcases HB9.out with ⟨h, _⟩ | ⟨_, h⟩; cases h; exact h) HK9.out)
                exact AllReadyIn.nil
              exact AllReadyIn.nil
            exact AllReadyIn.nil
          refine AllReadyIn.cons rfl (fun K hK => ?_) ?_
          · refine stepIn_run rfl rfl (.tmp 26) (.tmp 27) 33 rfl _ _ rfl rfl (fun _ _ => trivial) HRUN.out ?_
            refine hK _ _ ?_
            clear hK K
            refine wpAnyIn_ready (rs := [0]) (by kernel_rfl) (by simp) ?_
            refine AllReadyIn.cons rfl (fun K hK => ?_) ?_
            · go_simp
              refine hK _ _ ?_
              clear hK K
              refine wpAnyIn_ready (rs := [5]) (by kernel_rfl) (by simp) ?_
              refine AllReadyIn.cons rfl (fun K hK => ?_) ?_
              · go_simp
                refine (roundN HR8.out).mono ?_
                rintro e W9 h9
                obtain ⟨bb, rfl, hb9, hk9⟩ := round_of h9
                dsimp only
                refine hK _ _ ?_
                clear hK K
                refine wpAnyIn_ready (rs := [6]) (by kernel_rfl) (by simp) ?_
                refine AllReadyIn.cons rfl (fun K hK => ?_) ?_
                · go_simp
                  refine hK _ _ ?_
                  clear hK K
                  refine wpAnyIn_done (by kernel_rfl) ?_ _
                  have HB9 := Lib.hid hb9
                  have HK9 := Lib.hid hk9
                  clear hb9 hk9
                  cases bb with
                  | true => gi_wp2; exact FT.out _ (by rcases HB9.out with ⟨_, h⟩ | ⟨h, _⟩; exact h; cases h) HK9.out
                  | false => gi_wp2; exact (fun hx => ⟨⟨rfl, hx.1, hx.2.1⟩, hx.2.2⟩) (FX.out _ (by rcases HB9.out with ⟨h, _⟩ | ⟨_, h⟩; cases h; exact h) HK9.out)
                exact AllReadyIn.nil
              exact AllReadyIn.nil
            exact AllReadyIn.nil
          exact AllReadyIn.nil
        exact AllReadyIn.nil
      exact AllReadyIn.nil
    case done2 =>
      rintro Wc ⟨hj, hk⟩
      exact ⟨⟨by rw [ordTo_snoc]; exact hj, K5.out.trans hk (fun _ _ h => h)⟩, (Kept.of_below hb5' S).trans hk (fun _ _ h => h)⟩
    case stop2 =>
      rintro c2 pre2 Wc hpre2 ⟨rfl, hq, hk⟩
      gi_wp2
      exact ⟨⟨rfl, hq⟩, (Kept.of_below hb5' S).trans hk (fun _ _ h => h)⟩
  case done =>
    rintro D Wc hD ⟨hj, hk⟩ hdef
    have hj2 : J (ordersW es d (n + 1)) (Wc.putObj D (.deferred none)) := HJ.out _ _ _ (by rw [HOW.out]; exact hj) (putObj_below (Nat.le_trans BW.out.size hD))
    refine ⟨by simp, .inl ⟨_, _, rfl, run_takeDeferred hdef, ?_⟩⟩
    exact ⟨_, results_none rfl _ _ _, ⟨_, rfl⟩, .inl hj2⟩
  case stop =>
    rintro D c pre Wc hD hpre ⟨rfl, hq⟩ hdef
    have hq2 : ∃ q, q <+: ordersW es d (n + 1) ∧ Jx q (Wc.putObj D (.deferred none)) := hq.imp fun q hq => ⟨hq.1, HJx.out _ _ _ hq.2 (putObj_below (Nat.le_trans BW.out.size hD)) (putObj_cells hdef (fun _ _ _ h => by cases h))⟩
    gi_wp2
    refine ⟨by simp, .inl ⟨_, _, rfl, run_takeDeferred hdef, ?_⟩⟩
    exact ⟨_, results_none rfl _ _ _, ⟨_, rfl⟩, .inr hq2⟩
theorem orders_at {es : List Ev} {d : List Bool} (hdl : d.length = es.length) (hn : es.length ≤ 40) : ∀ n, n ≤ 3 → OrdersGive es d n
  | 0, _ => fun w S0 bl bp bd pv dv hl _ _ _ _ hsl _ _ _ _ _ _ => orders_zero (by simpa using hl) hsl
  | n + 1, h => orders_succ h hdl hn (orders_at hdl hn n (by omega))
end Go.Proofs.YtkddckfgdiemkaaGreat
