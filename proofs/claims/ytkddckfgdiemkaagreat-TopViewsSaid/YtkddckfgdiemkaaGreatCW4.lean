/-
  The contract of the iterator over all orders.
-/
import Derived.Test.YtkddckfgdiemkaaGreatCW3
import Derived.Laws.EntriesVeiled
set_option linter.unusedVariables false
set_option linter.unusedSimpArgs false
namespace Go.Proofs.YtkddckfgdiemkaaGreat
open Go.RowKit Go.Shelf Mem
set_option maxRecDepth 100000
attribute [local go_sem] Oper.semAt_some

/-- What an iterator over lists of numbers hands out. -/
def RepI (B : Nat) (W : World) (vs : Array Value) (x : List Int) : Prop := ∃ v, vs = #[v] ∧ Own W B v x
set_option maxHeartbeats 1000000 in
/-- **The iterator's contract.** -/
theorem merges_gives {w : World} {S0 : Nat → Prop} {es : List Ev} {pv lv : Value} {bp bl : Nat} {left : List Int} (hp : Blk w bp 65 [pv]) (hr : RdE w pv es) (hb : Blk w bl 28 [lv]) (hl : RdI w lv left)
    (hsp : ¬ S0 bp) (hsv : ∀ g, pv.ownBlock = some g → ¬ S0 g) (hsb : ¬ S0 bl) (hsl : ∀ g, lv.ownBlock = some g → ¬ S0 g) (hplt : ∀ g, pv.ownBlock = some g → g < w.heap.size) (hllt : ∀ g, lv.ownBlock = some g → g < w.heap.size) (hin : ∀ x ∈ left, In es x) (hlen : left.length < 900000) :
    Gives Tryz.prog 68 #[.pointer (some ⟨bp, 0, none⟩), .pointer (some ⟨bl, 0, none⟩)] S0 (RepI w.heap.size) (mergesW (thOf es) left.length [] left) w := by
  intro l J Jx W S hS hSl hK hJ hJx hY h0
  have hs : ∀ k, k < w.heap.size → ¬ S0 k → ¬ S k := fun k hk h1 h2 => h1 (hS k hk h2)
  have P1 := Lib.hid (hp.keep hK hsp)
  have B1 := Lib.hid (hb.keep hK hsb)
  have R1 := Lib.hid (hr.keep hK hsv)
  have L1 := Lib.hid (Rd.keep hl hK hsl)
  have hplt1 := P1.out.lt
  have hw : w.heap.size ≤ W.heap.size := hK.size
  have hlc := B1.out.cell 0 rfl
  obtain ⟨WA, hWA⟩ : ∃ WA, W.alloc (.cells #[.func (.yield l) #[] #[]] 118) = WA := ⟨_, rfl⟩
  have hsz : WA.heap.size = W.heap.size + 1 := by rw [← hWA]; simp
  have hbA : Below W.heap.size W WA := by rw [← hWA]; exact (Below.refl _ W).alloc (Nat.le_refl _) _
  obtain ⟨W0, hW0⟩ : ∃ W0, WA.alloc (.cells #[walkV W.heap.size bp WA.heap.size] 41) = W0 := ⟨_, rfl⟩
  have hbel : Below W.heap.size W W0 := by rw [← hW0]; exact hbA.alloc hbA.size _
  have hcap : Cap W0 S W.heap.size l es pv W.heap.size bp WA.heap.size := by
    refine ⟨?_, P1.out.below hbel, ?_, R1.out.below hbel, fun h => absurd (hSl _ h) (by omega), hs _ hp.lt hsp, fun h => absurd (hSl _ h) (by omega), fun g hg => hs g (hplt g hg) (hsv g hg)⟩
    · rw [← hW0, ← hWA]; exact (Blk.new W 118 [.func (.yield l) #[] #[]]).alloc _
    · rw [← hW0]; exact Blk.new WA 41 [walkV W.heap.size bp WA.heap.size]
  have HW : Hid (CallsIn Fence.wide 9 Tryz.prog 69 #[.slice none 0 0, lv, .pointer (some ⟨W.heap.size, 0, none⟩), .pointer (some ⟨bp, 0, none⟩), .pointer (some ⟨WA.heap.size, 0, none⟩)] W0
      (Walked S J Jx (mergesW (thOf es) left.length [] left) [] (mergesW (thOf es) left.length [] left) W0)) :=
    Lib.hid (walk_at hJ hSl (fun pre x vs W1 hj hx hv => hY pre x vs W1 hj hx (by obtain ⟨v, h1, h2⟩ := hv; exact ⟨v, h1, Row.mono h2 hw⟩)) left.length [] left (.slice none 0 0) lv [] W0 rfl hcap hbel.size (Own.nil _ _) (by intro g hg; cases hg) (L1.out.below hbel)
      (fun g hg => hs g (hllt g hg) (hsl g hg)) hin (by simp; omega) (hJ _ _ _ h0 hbel) (by simp))
  have HXA := Lib.hid hWA
  have HX0 := Lib.hid hW0
  have HSZ := Lib.hid hsz
  have hlc0 : W0.cell? ⟨bl, 0, none⟩ = some lv := (B1.out.below hbel).cell 0 rfl
  have hwc0 : W0.cell? ⟨WA.heap.size, 0, none⟩ = some (walkV W.heap.size bp WA.heap.size) := hcap.w.cell 0 rfl
  clear hcap hbel hK h0 hp hr hb hl hsp hsv hsb hsl hplt hllt hin hlen hS hSl hJ hJx hY hs hlc hWA hW0 hbA hsz
  refine callsIn_wide.2 ?_
  show Calls Tryz.prog 68 #[.func (.yield l) #[] #[], .pointer (some ⟨bp, 0, none⟩), .pointer (some ⟨bl, 0, none⟩)] W _
  go_enter Tryz.func68, Tryz.ntmps68
  go_upto_region 1 with fail
  rw [HXA.out]
  go_upto_region 3 with fail
  rw [HX0.out]
  go_wp2_with (go_at_call 69; refine (callsIn_wide.1 HW.out).mono ?_; rintro e W2 hw2; obtain ⟨b, rfl, h2, _⟩ := walked_tells hw2)
  go_returns
  refine ⟨⟨_, rfl⟩, ?_⟩
  rcases h2 with ⟨_, h2⟩ | ⟨_, h2⟩
  · exact .inl h2
  · exact .inr h2
end Go.Proofs.YtkddckfgdiemkaaGreat
