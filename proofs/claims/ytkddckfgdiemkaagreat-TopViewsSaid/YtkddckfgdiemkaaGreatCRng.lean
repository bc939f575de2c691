/-
  A range over a function, at the wide fence: what is yielded is read by a relation; a round keeps every block that lay there but for a set of the consumer's own; the consumer's word abides whatever befalls blocks that were laid since the loop began.
-/
import Derived.Test.YtkddckfgdiemkaaGreatCMem
import Derived.RangeFuncNested
import Derived.RangeFuncBound
import Derived.RangeFuncCalls
import Derived.RangeFuncLeaves
set_option linter.unusedVariables false
set_option linter.unusedSimpArgs false
namespace Go.Proofs.YtkddckfgdiemkaaGreat
open Go.RowKit Mem

/-- What is said abides every change of blocks from B on. -/
def Abide {β : Type} (B : Nat) (J : β → World → Prop) : Prop := ∀ s A C, J s A → Below B A C → J s C
theorem Abide.mono {β : Type} {B B' : Nat} {J : β → World → Prop} (h : Abide B J) (hB : B ≤ B') : Abide B' J := fun s A C hj hb => h s A C hj (hb.mono hB)
theorem Abide.and {β : Type} {B : Nat} {J K : β → World → Prop} (h : Abide B J) (k : Abide B K) : Abide B (fun s W => J s W ∧ K s W) := fun s A C hj hb => ⟨h s A C hj.1 hb, k s A C hj.2 hb⟩
theorem Abide.pure {β : Type} {B : Nat} (p : β → Prop) : Abide B (fun s (_ : World) => p s) := fun _ _ _ h _ => h
/-- Each block of cells stays as it is. -/
def CellsStay (A C : World) : Prop := ∀ (k : Nat) (cs : Array Value) (t : TypeId) (p : Nat × Nat), A.heap[k]? = some (.cells cs t p) → C.heap[k]? = some (.cells cs t p)
/-- What is said when a loop is left: from then on an iterator changes no cells, only records of loops that were laid from B on. -/
def AbideX {β : Type} (B : Nat) (J : β → World → Prop) : Prop := ∀ s A C, J s A → Below B A C → CellsStay A C → J s C
theorem Abide.x {β : Type} {B : Nat} {J : β → World → Prop} (h : Abide B J) : AbideX B J := fun s A C hj hb _ => h s A C hj hb
theorem putObj_cells {w : World} {r : Nat} {o o' : Obj} (h : w.heap[r]? = some o') (hn : ∀ cs t p, o' ≠ .cells cs t p) : CellsStay w (w.putObj r o) := fun k cs t p hk => by
  by_cases e : k = r
  · subst e; rw [h] at hk; exact absurd (Option.some.inj hk) (hn _ _ _)
  · exact (World.putObj_heap_other e).trans hk
/-- A contract of an iterator: gf, with what it has captured. It yields the list xs, in its order, each element as values that Rep reads. S0: the blocks of what lay at w that the consumer may change. -/
def Gives {α : Type} (P : Program) (gf : FuncId) (lb : Array Value) (S0 : Nat → Prop) (Rep : World → Array Value → α → Prop) (xs : List α) (w : World) : Prop :=
  ∀ (l : Nat) (J Jx : List α → World → Prop) (W : World) (S : Nat → Prop), (∀ k, k < w.heap.size → S k → S0 k) → (∀ k, S k → k < W.heap.size) → Kept w W S0 → Abide W.heap.size J → AbideX W.heap.size Jx →
    (∀ pre x vs W1, J pre W1 → (pre ++ [x]) <+: xs → Rep W1 vs x → YieldAt Fence.wide 9 P l vs W1 fun e W' =>
      (e = .returned (.bool true) ∧ J (pre ++ [x]) W' ∧ Kept W1 W' S) ∨ (e = .returned (.bool false) ∧ Jx (pre ++ [x]) W' ∧ Kept W1 W' S)) →
    J [] W →
    CallsIn Fence.wide 9 P gf (#[.func (.yield l) #[] #[]] ++ lb) W fun e W' => (∃ v, e = .returned v) ∧ (J xs W' ∨ ∃ pre, pre <+: xs ∧ Jx pre W')
/-- The same of an iterator that changes no cells that lay there when it was last heard of: a slice's values. -/
def GivesX {α : Type} (P : Program) (gf : FuncId) (lb : Array Value) (S0 : Nat → Prop) (Rep : World → Array Value → α → Prop) (xs : List α) (w : World) : Prop :=
  ∀ (l : Nat) (J Jx : List α → World → Prop) (W : World) (S : Nat → Prop), (∀ k, k < w.heap.size → S k → S0 k) → Kept w W S0 → AbideX W.heap.size J → AbideX W.heap.size Jx →
    (∀ pre x vs W1, J pre W1 → (pre ++ [x]) <+: xs → Rep W1 vs x → YieldAt Fence.wide 9 P l vs W1 fun e W' =>
      (e = .returned (.bool true) ∧ J (pre ++ [x]) W' ∧ Kept W1 W' S) ∨ (e = .returned (.bool false) ∧ Jx (pre ++ [x]) W' ∧ Kept W1 W' S)) →
    J [] W →
    CallsIn Fence.wide 9 P gf (#[.func (.yield l) #[] #[]] ++ lb) W fun e W' => (∃ v, e = .returned v) ∧ (J xs W' ∨ ∃ pre, pre <+: xs ∧ Jx pre W')
theorem GivesX.gives {α : Type} {P : Program} {gf : FuncId} {lb : Array Value} {S0 : Nat → Prop} {Rep : World → Array Value → α → Prop} {xs : List α} {w : World} (h : GivesX P gf lb S0 Rep xs w) : Gives P gf lb S0 Rep xs w :=
  fun l J Jx W S h1 _ h3 h4 h5 h6 h7 => h l J Jx W S h1 h3 h4.x h5 h6 h7
theorem below_cells {A C : World} (h : Below A.heap.size A C) : CellsStay A C := fun k cs t p hk => (h.block k (Array.getElem?_eq_some_iff.1 hk).1).trans hk
theorem anyN {n m : Nat} {P : Program} {f : FuncId} {args : Array Value} {w : World} {R : Ending → World → Prop} (h : CallsIn Fence.wide n P f args w R) : CallsIn Fence.wide m P f args w R := callsIn_wide.2 (callsIn_wide.1 h)
theorem putObj_below {B : Nat} {w : World} {r : Nat} {o : Obj} (h : B ≤ r) : Below B w (w.putObj r o) :=
  ⟨rfl, rfl, rfl, by simp, fun k hk => World.putObj_heap_other (by omega)⟩
theorem putObj_kept (w : World) (r : Nat) (o : Obj) : Kept w (w.putObj r o) (fun k => k = r) :=
  ⟨rfl, rfl, rfl, by simp, fun k hk hs => World.putObj_heap_other hs⟩
/-- What a round of a consumer leaves, by the way in which its body is left. -/
def RoundEnd {α : Type} (S0 : Nat → Prop) (I : List α → World → Prop) (Ix : Code → List α → World → Prop) (pre : List α) (W : World) : Exit → Act → World → Prop
  | .normal, _, W' => I pre W' ∧ Kept W W' S0
  | .ret, _, W' => Ix .ret pre W' ∧ Kept W W' S0
  | .exit id, _, W' => Ix (.exit id) pre W' ∧ Kept W W' S0
  | .goto t, _, W' => Ix (.goto t) pre W' ∧ Kept W W' S0
  | _, _, _ => False
section
variable {P : Program} {α : Type} {g : Operand} {ps : Array Tmp} {assign body : Code} {Q : Exit → Act → World → Prop} {a : Act} {w : World} {gf : Nat} {lb : Array Value}
  {S0 : Nat → Prop} {Rep : World → Array Value → α → Prop} {xs : List α} {I : List α → World → Prop} {Ix : Code → List α → World → Prop}
/-- One round: the record at l, a word of the law's own. -/
theorem round_law {fn : FuncId} {l D : Nat} {rec : LoopState → Option Code → Loop} (hrec : rec = fun st pe => { state := st, pending := pe, fn, tmps := a.tmps, params := ps, assign, body, defers := D }) (hB : w.heap.size ≤ l)
    (hS0 : ¬ S0 l) (hI : AbideX w.heap.size I) (hIx : ∀ c, AbideX w.heap.size (Ix c)) (hps : ∀ W vs x, Rep W vs x → vs.size = ps.size)
    (hround : ∀ (l₂ : Nat) (pre : List α) (x : α) (vs : Array Value) (W : World), w.heap.size ≤ l₂ → l₂ = l → (∃ r, W.heap[l₂]? = some (.loop r)) → I pre W → (pre ++ [x]) <+: xs → Rep W vs x →
      assign.wpIn (Fence.wide.inRound l₂) 9 P (Exit.then (fun a₁ W₁ => Kept W W₁ S0 ∧ ∀ W₂, Kept W₁ W₂ (fun k => k = l₂) → W₂.heap.size = W₁.heap.size → (∃ r, W₂.heap[l₂]? = some (.loop r)) →
        body.wpIn (Fence.wide.inRound l₂) 9 P (RoundEnd S0 I Ix (pre ++ [x]) W₂) a₁ W₂) (fun _ _ _ => False)) { tmps := (ps.zip vs).foldl (fun t (p, v) => t.setIfInBounds p v) a.tmps, defers := [] } W)
    (pre : List α) (x : α) (vs : Array Value) (W : World) (hi : I pre W) (hl : W.heap[l]? = some (.loop (rec .ready none))) (hx : (pre ++ [x]) <+: xs) (hr : Rep W vs x) :
    YieldAt Fence.wide 9 P l vs W fun e W' =>
      (e = .returned (.bool true) ∧ (I (pre ++ [x]) W' ∧ W'.heap[l]? = some (.loop (rec .ready none))) ∧ Kept W W' (fun k => S0 k ∨ k = l)) ∨
      (e = .returned (.bool false) ∧ (∃ c, Ix c (pre ++ [x]) W' ∧ W'.heap[l]? = some (.loop (rec .done (some c)))) ∧ Kept W W' (fun k => S0 k ∨ k = l)) := by
  have hlt : l < W.heap.size := (Array.getElem?_eq_some_iff.1 hl).1
  have hy := run_yield (P := P) (args := vs) hl (by rw [hrec]; exact hps W vs x hr)
  rw [hrec] at hy
  refine ⟨fn, _, assign, body, hy, roundIn_of_wpIn trivial (wpIn_mono (hround l pre x vs W hB rfl ⟨_, hl⟩ hi hx hr) ?_)⟩
  clear hy
  rintro e a₁ W₁ hq
  cases e with
  | normal =>
    obtain ⟨k1, hbody⟩ := hq
    have hl1 : W₁.heap[l]? = some (.loop (rec .ready none)) := (k1.block l hlt (fun hs => absurd hs hS0)).trans hl
    have hlt1 := (Array.getElem?_eq_some_iff.1 hl1).1
    refine ⟨_, run_beginRound hl1 (by rw [hrec]), ?_⟩
    have hl2 : (W₁.putObj l (.loop { rec .ready none with state := .busy })).heap[l]? = some (.loop { rec .ready none with state := .busy }) := World.putObj_heap_same hlt1
    refine wpIn_mono (hbody _ (putObj_kept W₁ l _) (by simp) ⟨_, hl2⟩) ?_
    have k2 : Kept W (W₁.putObj l (.loop { rec .ready none with state := .busy })) (fun k => S0 k ∨ k = l) := (k1.mono (fun _ _ h => .inl h)).trans (putObj_kept W₁ l _) (fun _ _ e => .inr e)
    have fin : ∀ (jump : Option Code) (W3 : World), Kept (W₁.putObj l (.loop { rec .ready none with state := .busy })) W3 S0 →
        (Instr.endRound l jump).run P W3 = .ok (.bool jump.isNone) (W3.putObj l (.loop (rec (if jump.isNone then .ready else .done) jump))) ∧
        (W3.putObj l (.loop (rec (if jump.isNone then .ready else .done) jump))).heap[l]? = some (.loop (rec (if jump.isNone then .ready else .done) jump)) ∧
        Kept W (W3.putObj l (.loop (rec (if jump.isNone then .ready else .done) jump))) (fun k => S0 k ∨ k = l) ∧
        CellsStay W3 (W3.putObj l (.loop (rec (if jump.isNone then .ready else .done) jump))) := fun jump W3 hk3 => by
      have hl3 : W3.heap[l]? = _ := (hk3.block l (by simpa using hlt1) (fun hs => absurd hs hS0)).trans hl2
      have := run_endRound (P := P) jump hl3
      rw [hrec] at this ⊢
      exact ⟨this, World.putObj_heap_same (Array.getElem?_eq_some_iff.1 hl3).1, (by rw [hrec] at k2 hk3; exact (k2.trans hk3 (fun _ _ e => .inl e)).trans (putObj_kept W3 l _) (fun _ _ e => .inr e)), putObj_cells hl3 (fun _ _ _ h => by cases h)⟩
    rintro e a3 W3 hp
    cases e with
    | normal =>
      obtain ⟨hi3, hk3⟩ := hp
      obtain ⟨f1, f2, f3, f4⟩ := fin none W3 hk3
      exact ⟨_, _, f1, .inl ⟨rfl, ⟨hI _ _ _ hi3 (putObj_below hB) f4, f2⟩, f3⟩⟩
    | ret =>
      obtain ⟨hi3, hk3⟩ := hp
      obtain ⟨f1, f2, f3, f4⟩ := fin (some .ret) W3 hk3
      exact ⟨_, _, f1, .inr ⟨rfl, ⟨.ret, hIx _ _ _ _ hi3 (putObj_below hB) f4, f2⟩, f3⟩⟩
    | exit id =>
      obtain ⟨hi3, hk3⟩ := hp
      obtain ⟨f1, f2, f3, f4⟩ := fin (some (.exit id)) W3 hk3
      exact ⟨_, _, f1, .inr ⟨rfl, ⟨.exit id, hIx _ _ _ _ hi3 (putObj_below hB) f4, f2⟩, f3⟩⟩
    | goto t =>
      obtain ⟨hi3, hk3⟩ := hp
      obtain ⟨f1, f2, f3, f4⟩ := fin (some (.goto t)) W3 hk3
      exact ⟨_, _, f1, .inr ⟨rfl, ⟨.goto t, hIx _ _ _ _ hi3 (putObj_below hB) f4, f2⟩, f3⟩⟩
    | panic ch => exact hp.elim
    | outgrown => exact hp.elim
  | ret => exact hq.elim
  | exit id => exact hq.elim
  | goto t => exact hq.elim
  | panic ch => exact hq.elim
  | outgrown => exact hq.elim
/-- **The law of a consumer, in a function's own frame.** -/
theorem wpIn_range {n : Nat} (hg : a.eval g = .func (.func gf) #[] lb) (eg : ∀ args w, (callFunc gf args).run P w = .ok (.enter gf args) w)
    (hgives : Gives P gf lb S0 Rep xs w) (hS0 : ∀ k, S0 k → k < w.heap.size) (hI : Abide w.heap.size I) (hIx : ∀ c, AbideX w.heap.size (Ix c)) (hps : ∀ W vs x, Rep W vs x → vs.size = ps.size) (h0 : I [] w)
    (hround : ∀ (l : Nat) (pre : List α) (x : α) (vs : Array Value) (W : World), w.heap.size ≤ l → (∃ r, W.heap[l]? = some (.loop r)) → I pre W → (pre ++ [x]) <+: xs → Rep W vs x →
      assign.wpIn (Fence.wide.inRound l) 9 P (Exit.then (fun a₁ W₁ => Kept W W₁ S0 ∧ ∀ W₂, Kept W₁ W₂ (fun k => k = l) → W₂.heap.size = W₁.heap.size → (∃ r, W₂.heap[l]? = some (.loop r)) →
        body.wpIn (Fence.wide.inRound l) 9 P (RoundEnd S0 I Ix (pre ++ [x]) W₂) a₁ W₂) (fun _ _ _ => False)) { tmps := (ps.zip vs).foldl (fun t (p, v) => t.setIfInBounds p v) a.tmps, defers := [] } W)
    (hdone : ∀ (D : Nat) (W : World), w.heap.size ≤ D → I xs W → W.heap[D]? = some (.deferred (some [])) → Q .normal { a with defers := { target := .collected D, args := #[] } :: a.defers } W)
    (hstop : ∀ (D : Nat) (c : Code) (pre : List α) (W : World), w.heap.size ≤ D → pre <+: xs → Ix c pre W → W.heap[D]? = some (.deferred (some [])) → c.wpIn Fence.wide n P Q { a with defers := { target := .collected D, args := #[] } :: a.defers } W) :
    (Code.rangeFunc g ps assign body).wpIn Fence.wide n P Q a w := by
  refine wpIn_rangeFunc ?_
  intro fn hfn
  obtain ⟨rec, hrec⟩ : ∃ rec : LoopState → Option Code → Loop, rec = fun st pe => { state := st, pending := pe, fn, tmps := a.tmps, params := ps, assign, body, defers := w.heap.size } := ⟨_, rfl⟩
  obtain ⟨W1, hW1⟩ : ∃ W1, (w.alloc (.deferred (some []))).alloc (.loop (rec .ready none)) = W1 := ⟨_, rfl⟩
  have hsz : W1.heap.size = w.heap.size + 2 := by rw [← hW1]; simp
  have hL1 : W1.heap[w.heap.size + 1]? = some (.loop (rec .ready none)) := by
    rw [← hW1]; have := World.alloc_heap_new (w.alloc (.deferred (some []))) (.loop (rec .ready none)); rwa [World.size_alloc] at this
  have hK1 : W1.heap[w.heap.size]? = some (.deferred (some [])) := by
    rw [← hW1]; exact (Below.heap_alloc _ _ _ (by simp)).trans (World.alloc_heap_new w _)
  have hb1 : Below w.heap.size w W1 := by rw [← hW1]; exact ((Below.refl _ w).alloc (Nat.le_refl _) _).alloc (by simp) _
  have hI1 : I [] W1 := hI _ _ _ h0 hb1
  refine ⟨w.heap.size + 1, [{ target := .collected w.heap.size, args := #[] }], W1, { target := .fn (.func gf) lb, args := #[.func (.yield (w.heap.size + 1)) #[] #[]] }, W1, gf,
    #[.func (.yield (w.heap.size + 1)) #[] #[]] ++ lb, W1, ?_, ?_, ?_, ?_, (fun h => by cases h), ?_⟩
  · rw [← hW1, hrec]; exact run_enterLoop_outer _ _ _ _ _
  · simp only [resolve, hg]
    simp [go_sem]
  · intro f' _; trivial
  · simp [invoke, go_sem, eg]
  · refine anyN (CallsIn.mono (hgives (w.heap.size + 1)
      (fun pre W => I pre W ∧ W.heap[w.heap.size + 1]? = some (.loop (rec .ready none)) ∧ W.heap[w.heap.size]? = some (.deferred (some [])))
      (fun pre W => (∃ c, Ix c pre W ∧ W.heap[w.heap.size + 1]? = some (.loop (rec .done (some c)))) ∧ W.heap[w.heap.size]? = some (.deferred (some [])))
      W1 (fun k => S0 k ∨ k = w.heap.size + 1) (fun k hk hs => hs.elim id (fun e => absurd hk (by omega))) (fun k hs => hs.elim (fun h => by have := hS0 k h; omega) (fun e => by omega)) (Kept.of_below hb1 _)
      (fun s A C hj hb => ⟨hI _ _ _ hj.1 (hb.mono (by omega)), (hb.block _ (by omega)).trans hj.2.1, (hb.block _ (by omega)).trans hj.2.2⟩)
      (fun s A C hj hb hcs => by
        obtain ⟨⟨c, hc, hl⟩, hk⟩ := hj
        exact ⟨⟨c, hIx c _ _ _ hc (hb.mono (by omega)) hcs, (hb.block _ (by omega)).trans hl⟩, (hb.block _ (by omega)).trans hk⟩)
      ?_ ⟨hI1, hL1, hK1⟩) ?_)
    · rintro pre x vs W ⟨hi, hl, hk⟩ hx hr
      refine (round_law hrec (by omega) (fun h => by have := hS0 _ h; omega) hI.x hIx hps (fun l' p x v W h1 _ h2 => hround l' p x v W h1 h2) pre x vs W hi hl hx hr).mono ?_
      have hlt := (Array.getElem?_eq_some_iff.1 hk).1
      rintro e W' (⟨he, hj, kk⟩ | ⟨he, hj, kk⟩)
      · exact .inl ⟨he, ⟨hj.1, hj.2, (kk.block _ hlt (fun hs => hs.elim (fun h => by have := hS0 _ h; omega) (fun e => by omega))).trans hk⟩, kk⟩
      · exact .inr ⟨he, ⟨hj, (kk.block _ hlt (fun hs => hs.elim (fun h => by have := hS0 _ h; omega) (fun e => by omega))).trans hk⟩, kk⟩
    · rintro e W2 ⟨⟨v, rfl⟩, (⟨hi, hl, hk⟩ | ⟨pre, hpre, ⟨c, hi, hl⟩, hk⟩)⟩
      · exact ⟨none, _, by have := run_endLoop (P := P) hl (by rw [hrec]; simp); rw [hrec] at this; exact this, hdone _ _ (Nat.le_refl _) (hI _ _ _ hi (putObj_below (by omega))) ((World.putObj_heap_other (by omega)).trans hk)⟩
      · exact ⟨some c, _, by have := run_endLoop (P := P) hl (by rw [hrec]; simp); rw [hrec] at this; exact this, hstop _ c pre _ (Nat.le_refl _) hpre (hIx c _ _ _ hi (putObj_below (by omega)) (putObj_cells hl (fun _ _ _ h => by cases h))) ((World.putObj_heap_other (by omega)).trans hk)⟩
/-- **The law of a consumer, in a function's own frame, of an iterator that changes no cells.** -/
theorem wpIn_rangeX {n : Nat} (hg : a.eval g = .func (.func gf) #[] lb) (eg : ∀ args w, (callFunc gf args).run P w = .ok (.enter gf args) w)
    (hgives : GivesX P gf lb S0 Rep xs w) (hS0 : ∀ k, S0 k → k < w.heap.size) (hI : AbideX w.heap.size I) (hIx : ∀ c, AbideX w.heap.size (Ix c)) (hps : ∀ W vs x, Rep W vs x → vs.size = ps.size) (h0 : I [] w)
    (hround : ∀ (l : Nat) (pre : List α) (x : α) (vs : Array Value) (W : World), l = w.heap.size + 1 → (∃ r, W.heap[l]? = some (.loop r)) → I pre W → (pre ++ [x]) <+: xs → Rep W vs x →
      assign.wpIn (Fence.wide.inRound l) 9 P (Exit.then (fun a₁ W₁ => Kept W W₁ (fun k => S0 k ∨ w.heap.size + 1 < k) ∧ ∀ W₂, Kept W₁ W₂ (fun k => k = l) → W₂.heap.size = W₁.heap.size → (∃ r, W₂.heap[l]? = some (.loop r)) →
        body.wpIn (Fence.wide.inRound l) 9 P (RoundEnd (fun k => S0 k ∨ w.heap.size + 1 < k) I Ix (pre ++ [x]) W₂) a₁ W₂) (fun _ _ _ => False)) { tmps := (ps.zip vs).foldl (fun t (p, v) => t.setIfInBounds p v) a.tmps, defers := [] } W)
    (hdone : ∀ (D : Nat) (W : World), w.heap.size ≤ D → I xs W → W.heap[D]? = some (.deferred (some [])) → Q .normal { a with defers := { target := .collected D, args := #[] } :: a.defers } W)
    (hstop : ∀ (D : Nat) (c : Code) (pre : List α) (W : World), w.heap.size ≤ D → pre <+: xs → Ix c pre W → W.heap[D]? = some (.deferred (some [])) → c.wpIn Fence.wide n P Q { a with defers := { target := .collected D, args := #[] } :: a.defers } W) :
    (Code.rangeFunc g ps assign body).wpIn Fence.wide n P Q a w := by
  refine wpIn_rangeFunc ?_
  intro fn hfn
  obtain ⟨rec, hrec⟩ : ∃ rec : LoopState → Option Code → Loop, rec = fun st pe => { state := st, pending := pe, fn, tmps := a.tmps, params := ps, assign, body, defers := w.heap.size } := ⟨_, rfl⟩
  obtain ⟨W1, hW1⟩ : ∃ W1, (w.alloc (.deferred (some []))).alloc (.loop (rec .ready none)) = W1 := ⟨_, rfl⟩
  have hsz : W1.heap.size = w.heap.size + 2 := by rw [← hW1]; simp
  have hL1 : W1.heap[w.heap.size + 1]? = some (.loop (rec .ready none)) := by
    rw [← hW1]; have := World.alloc_heap_new (w.alloc (.deferred (some []))) (.loop (rec .ready none)); rwa [World.size_alloc] at this
  have hK1 : W1.heap[w.heap.size]? = some (.deferred (some [])) := by
    rw [← hW1]; exact (Below.heap_alloc _ _ _ (by simp)).trans (World.alloc_heap_new w _)
  have hb1 : Below w.heap.size w W1 := by rw [← hW1]; exact ((Below.refl _ w).alloc (Nat.le_refl _) _).alloc (by simp) _
  have hI1 : I [] W1 := hI _ _ _ h0 hb1 (below_cells hb1)
  refine ⟨w.heap.size + 1, [{ target := .collected w.heap.size, args := #[] }], W1, { target := .fn (.func gf) lb, args := #[.func (.yield (w.heap.size + 1)) #[] #[]] }, W1, gf,
    #[.func (.yield (w.heap.size + 1)) #[] #[]] ++ lb, W1, ?_, ?_, ?_, ?_, (fun h => by cases h), ?_⟩
  · rw [← hW1, hrec]; exact run_enterLoop_outer _ _ _ _ _
  · simp only [resolve, hg]
    simp [go_sem]
  · intro f' _; trivial
  · simp [invoke, go_sem, eg]
  · refine anyN (CallsIn.mono (hgives (w.heap.size + 1)
      (fun pre W => I pre W ∧ W.heap[w.heap.size + 1]? = some (.loop (rec .ready none)) ∧ W.heap[w.heap.size]? = some (.deferred (some [])))
      (fun pre W => (∃ c, Ix c pre W ∧ W.heap[w.heap.size + 1]? = some (.loop (rec .done (some c)))) ∧ W.heap[w.heap.size]? = some (.deferred (some [])))
      W1 (fun k => (S0 k ∨ w.heap.size + 1 < k) ∨ k = w.heap.size + 1) (fun k hk hs => hs.elim (fun h => h.elim id (fun e => absurd hk (by omega))) (fun e => absurd hk (by omega))) (Kept.of_below hb1 _)
      (fun s A C hj hb hcs => ⟨hI _ _ _ hj.1 (hb.mono (by omega)) hcs, (hb.block _ (by omega)).trans hj.2.1, (hb.block _ (by omega)).trans hj.2.2⟩)
      (fun s A C hj hb hcs => by
        obtain ⟨⟨c, hc, hl⟩, hk⟩ := hj
        exact ⟨⟨c, hIx c _ _ _ hc (hb.mono (by omega)) hcs, (hb.block _ (by omega)).trans hl⟩, (hb.block _ (by omega)).trans hk⟩)
      ?_ ⟨hI1, hL1, hK1⟩) ?_)
    · rintro pre x vs W ⟨hi, hl, hk⟩ hx hr
      refine (round_law (S0 := fun k => S0 k ∨ w.heap.size + 1 < k) hrec (by omega) (fun h => h.elim (fun h => by have := hS0 _ h; omega) (fun h => by omega)) hI hIx hps (fun l' p x v W _ h1 h2 => hround l' p x v W h1 h2) pre x vs W hi hl hx hr).mono ?_
      have hlt := (Array.getElem?_eq_some_iff.1 hk).1
      rintro e W' (⟨he, hj, kk⟩ | ⟨he, hj, kk⟩)
      · exact .inl ⟨he, ⟨hj.1, hj.2, (kk.block _ hlt (fun hs => hs.elim (fun h => h.elim (fun h => by have := hS0 _ h; omega) (fun h => by omega)) (fun e => by omega))).trans hk⟩, kk⟩
      · exact .inr ⟨he, ⟨hj, (kk.block _ hlt (fun hs => hs.elim (fun h => h.elim (fun h => by have := hS0 _ h; omega) (fun h => by omega)) (fun e => by omega))).trans hk⟩, kk⟩
    · rintro e W2 ⟨⟨v, rfl⟩, (⟨hi, hl, hk⟩ | ⟨pre, hpre, ⟨c, hi, hl⟩, hk⟩)⟩
      · exact ⟨none, _, by have := run_endLoop (P := P) hl (by rw [hrec]; simp); rw [hrec] at this; exact this, hdone _ _ (Nat.le_refl _) (hI _ _ _ hi (putObj_below (by omega)) (putObj_cells hl (fun _ _ _ h => by cases h))) ((World.putObj_heap_other (by omega)).trans hk)⟩
      · exact ⟨some c, _, by have := run_endLoop (P := P) hl (by rw [hrec]; simp); rw [hrec] at this; exact this, hstop _ c pre _ (Nat.le_refl _) hpre (hIx c _ _ _ hi (putObj_below (by omega)) (putObj_cells hl (fun _ _ _ h => by cases h))) ((World.putObj_heap_other (by omega)).trans hk)⟩
/-- **The law of a consumer in a round of another loop.** -/
theorem wpIn_range_in {n l₀ : Nat} {r₀ : Loop} (hl₀ : w.heap[l₀]? = some (.loop r₀)) (hg : a.eval g = .func (.func gf) #[] lb) (eg : ∀ args w, (callFunc gf args).run P w = .ok (.enter gf args) w)
    (hgives : Gives P gf lb S0 Rep xs w) (hS0 : ∀ k, S0 k → k < w.heap.size) (hI : Abide w.heap.size I) (hIx : ∀ c, AbideX w.heap.size (Ix c)) (hps : ∀ W vs x, Rep W vs x → vs.size = ps.size) (h0 : I [] w)
    (hround : ∀ (l : Nat) (pre : List α) (x : α) (vs : Array Value) (W : World), w.heap.size ≤ l → (∃ r, W.heap[l]? = some (.loop r)) → I pre W → (pre ++ [x]) <+: xs → Rep W vs x →
      assign.wpIn (Fence.wide.inRound l) 9 P (Exit.then (fun a₁ W₁ => Kept W W₁ S0 ∧ ∀ W₂, Kept W₁ W₂ (fun k => k = l) → W₂.heap.size = W₁.heap.size → (∃ r, W₂.heap[l]? = some (.loop r)) →
        body.wpIn (Fence.wide.inRound l) 9 P (RoundEnd S0 I Ix (pre ++ [x]) W₂) a₁ W₂) (fun _ _ _ => False)) { tmps := (ps.zip vs).foldl (fun t (p, v) => t.setIfInBounds p v) a.tmps, defers := [] } W)
    (hdone : ∀ (W : World), I xs W → Q .normal a W)
    (hstop : ∀ (c : Code) (pre : List α) (W : World), pre <+: xs → Ix c pre W → c.wpIn (Fence.wide.inRound l₀) n P Q a W) :
    (Code.rangeFunc g ps assign body).wpIn (Fence.wide.inRound l₀) n P Q a w := by
  refine wpIn_rangeFunc ?_
  intro fn hfn
  obtain ⟨rec, hrec⟩ : ∃ rec : LoopState → Option Code → Loop, rec = fun st pe => { state := st, pending := pe, fn, tmps := a.tmps, params := ps, assign, body, defers := r₀.defers } := ⟨_, rfl⟩
  obtain ⟨W1, hW1⟩ : ∃ W1, w.alloc (.loop (rec .ready none)) = W1 := ⟨_, rfl⟩
  have hsz : W1.heap.size = w.heap.size + 1 := by rw [← hW1]; simp
  have hL1 : W1.heap[w.heap.size]? = some (.loop (rec .ready none)) := by rw [← hW1]; exact World.alloc_heap_new w _
  have hb1 : Below w.heap.size w W1 := by rw [← hW1]; exact (Below.refl _ w).alloc (Nat.le_refl _) _
  have hI1 : I [] W1 := hI _ _ _ h0 hb1
  refine ⟨w.heap.size, [], W1, { target := .fn (.func gf) lb, args := #[.func (.yield w.heap.size) #[] #[]] }, W1, gf,
    #[.func (.yield w.heap.size) #[] #[]] ++ lb, W1, ?_, ?_, ?_, ?_, (fun h => by cases h), ?_⟩
  · rw [← hW1, hrec]; exact run_enterLoop_inner hl₀ _ _ _ _ _
  · simp only [resolve, hg]
    simp [go_sem]
  · intro f' _; trivial
  · simp [invoke, go_sem, eg]
  · refine CallsIn.inRound l₀ (anyN (CallsIn.mono (hgives w.heap.size
      (fun pre W => I pre W ∧ W.heap[w.heap.size]? = some (.loop (rec .ready none)))
      (fun pre W => ∃ c, Ix c pre W ∧ W.heap[w.heap.size]? = some (.loop (rec .done (some c))))
      W1 (fun k => S0 k ∨ k = w.heap.size) (fun k hk hs => hs.elim id (fun e => absurd hk (by omega))) (fun k hs => hs.elim (fun h => by have := hS0 k h; omega) (fun e => by omega)) (Kept.of_below hb1 _)
      (fun s A C hj hb => ⟨hI _ _ _ hj.1 (hb.mono (by omega)), (hb.block _ (by omega)).trans hj.2⟩)
      (fun s A C hj hb hcs => by
        obtain ⟨c, hc, hl⟩ := hj
        exact ⟨c, hIx c _ _ _ hc (hb.mono (by omega)) hcs, (hb.block _ (by omega)).trans hl⟩)
      ?_ ⟨hI1, hL1⟩) ?_))
    · rintro pre x vs W ⟨hi, hl⟩ hx hr
      refine (round_law hrec (Nat.le_refl _) (fun h => by have := hS0 _ h; omega) hI.x hIx hps (fun l' p x v W h1 _ h2 => hround l' p x v W h1 h2) pre x vs W hi hl hx hr).mono ?_
      rintro e W' (⟨he, hj, kk⟩ | ⟨he, hj, kk⟩)
      · exact .inl ⟨he, hj, kk⟩
      · exact .inr ⟨he, hj, kk⟩
    · rintro e W2 ⟨⟨v, rfl⟩, (⟨hi, hl⟩ | ⟨pre, hpre, c, hi, hl⟩)⟩
      · exact ⟨none, _, by have := run_endLoop (P := P) hl (by rw [hrec]; simp); rw [hrec] at this; exact this, hdone _ (hI _ _ _ hi (putObj_below (Nat.le_refl _)))⟩
      · exact ⟨some c, _, by have := run_endLoop (P := P) hl (by rw [hrec]; simp); rw [hrec] at this; exact this, hstop c pre _ hpre (hIx c _ _ _ hi (putObj_below (Nat.le_refl _)) (putObj_cells hl (fun _ _ _ h => by cases h)))⟩
end
end Go.Proofs.YtkddckfgdiemkaaGreat
