/-
  Relations: for each event a set of events, one bit each: put, has, close, circle.
-/
import Derived.Test.YtkddckfgdiemkaaGreatCW8
import Derived.BigRegion
set_option linter.unusedVariables false
set_option linter.unusedSimpArgs false
namespace Go.Proofs.YtkddckfgdiemkaaGreat
open Go.RowKit Go.Shelf Mem
set_option maxRecDepth 100000

def orN (x y : Nat) : Nat := x ||| y
theorem powN_lt {b : Nat} (hb : b < 32) : powN b < 4294967296 := Nat.lt_of_le_of_lt (Nat.pow_le_pow_right (by decide) (show b ≤ 31 by omega)) (by decide)
theorem orN_lt {x y : Nat} (hx : x < 4294967296) (hy : y < 4294967296) : orN x y < 4294967296 := Nat.or_lt_two_pow (n := 32) hx hy
theorem shl32 (b : Nat) (hb : b < 32) : Op.shift .shl .u32 1 .i64 (b : Int) = pure (.int .u32 ((powN b : Nat) : Int)) := by
  rw [shift_shl_any _ _ _ _ (by omega)]
  have h1 := powN_lt hb
  have e : min ((b : Int)).toNat IntKind.u32.bits = b := by simp [IntKind.bits]; omega
  rw [e, IntKind.wrap_u32, powN_int]
  generalize powN b = q at *
  have : ((1 : Int) * (q : Int)) % 4294967296 = (q : Int) := by omega
  rw [this]
theorem shr32 (x b : Nat) (hb : b < 32) : Op.shift .shr .u32 (x : Int) .i64 (b : Int) = pure (.int .u32 ((shrN x b : Nat) : Int)) := by
  rw [shift_shr_any _ _ _ _ (by omega)]
  have e : min ((b : Int)).toNat IntKind.u32.bits = b := by simp [IntKind.bits]; omega
  rw [e, powN_int]
  rfl
theorem wraps_u32 (n : Int) (h₀ : 0 ≤ n) (h₁ : n < 2 ^ 32) : IntKind.u32.wrap n = n := by rw [IntKind.wrap_u32]; omega
theorem shrN_lt {x b : Nat} (hx : x < 4294967296) : shrN x b < 4294967296 := Nat.lt_of_le_of_lt (Nat.div_le_self _ _) hx
theorem low32 (x b : Nat) (hx : x < 4294967296) : bits .and .u32 ((shrN x b : Nat) : Int) 1 = ((lowN (shrN x b) : Nat) : Int) := by
  have h := shrN_lt (b := b) hx
  have := bits_mask .u32 32 (by decide) wraps_u32 1 (by decide) ((shrN x b : Nat) : Int) (by omega) (by omega)
  rw [show ((2 : Int) ^ 1 - 1) = 1 by decide] at this
  rw [this]; rfl
theorem or32 (x y : Nat) (hx : x < 4294967296) (hy : y < 4294967296) : bits .or .u32 (x : Int) (y : Int) = ((orN x y : Nat) : Int) := (bits_nat .u32 32 (by decide) wraps_u32 x y hx hy).2
theorem or32z (y : Nat) (hy : y < 4294967296) : bits .or .u32 0 (y : Int) = ((orN 0 y : Nat) : Int) := or32 0 y (by decide) hy
attribute [local go_sem ↓] shl32 shr32 low32 or32 or32z

def u32s (l : List Nat) : List Value := l.map fun x : Nat => .int .u32 (x : Int)
theorem u32s_length (l : List Nat) : (u32s l).length = l.length := by simp [u32s]
theorem u32s_at (l : List Nat) (j : Nat) (h : j < l.length) : (u32s l)[j]? = some (.int .u32 ((l.getD j 0 : Nat) : Int)) := by simp [u32s, List.getElem?_eq_getElem h, List.getD]
theorem u32s_set (l : List Nat) (j x : Nat) : u32s (l.set j x) = (u32s l).set j (.int .u32 (x : Int)) := by simp [u32s, List.map_set]
/-- A relation lies at block g. -/
structure IsR (W : World) (g n : Nat) (r : List Nat) : Prop where
  blk : Blk W g 138 (u32s r)
  len : r.length = n
  lt : ∀ j, r.getD j 0 < 4294967296
theorem IsR.keep {W W' : World} {S : Nat → Prop} {g n : Nat} {r : List Nat} (h : IsR W g n r) (k : Kept W W' S) (hg : ¬ S g) : IsR W' g n r := ⟨h.blk.keep k hg, h.len, h.lt⟩
theorem IsR.below {W W' : World} {g n : Nat} {r : List Nat} (h : IsR W g n r) (k : Below W.heap.size W W') : IsR W' g n r := ⟨h.blk.below k, h.len, h.lt⟩
theorem getD_set_lt {r : List Nat} {a x B : Nat} (h : ∀ j, r.getD j 0 < B) (hx : x < B) (j : Nat) : (r.set a x).getD j 0 < B := by
  have := h j
  simp only [List.getD, List.getElem?_set] at this ⊢
  split
  · split
    · simpa using hx
    · simp; omega
  · exact this
theorem IsR.set {W : World} {g n : Nat} {r : List Nat} (h : IsR W g n r) (a x : Nat) (hx : x < 4294967296) : IsR (W.setCell ⟨g, a, none⟩ (.int .u32 (x : Int))) g n (r.set a x) :=
  ⟨by rw [u32s_set]; exact h.blk.set _ _, by rw [List.length_set, h.len], getD_set_lt h.lt hx⟩
theorem IsR.cell {W : World} {g n : Nat} {r : List Nat} (h : IsR W g n r) {a : Nat} (ha : a < n) : W.cell? ⟨g, a, none⟩ = some (.int .u32 ((r.getD a 0 : Nat) : Int)) := h.blk.cell a (u32s_at r a (by rw [h.len]; exact ha))
abbrev relV (g n : Nat) : Value := .slice (some ⟨g, 0, none⟩) n n
def bitOf (x b : Nat) : Bool := ((lowN (shrN x b) : Nat) : Int) == 1
def hasR (r : List Nat) (a b : Nat) : Bool := bitOf (r.getD a 0) b
def putR (r : List Nat) (a b : Nat) : List Nat := r.set a (orN (r.getD a 0) (powN b))
theorem putR_length (r : List Nat) (a b : Nat) : (putR r a b).length = r.length := by simp [putR]
theorem put_any {w : World} {g n a b : Nat} {r : List Nat} (h : IsR w g n r) (ha : a < n) (hb : b < 32) :
    Calls Tryz.prog 75 #[relV g n, .int .i64 (a : Int), .int .i64 (b : Int)] w fun e w' => e = .returned (.tuple #[]) ∧ IsR w' g n (putR r a b) ∧ Kept w w' (fun k => k = g) := by
  have c0 := h.cell ha
  have f0 := h.blk.free a
  have hlt := h.lt a
  have H := Lib.hid h
  clear h
  obtain ⟨x, hx⟩ : ∃ x, r.getD a 0 = x := ⟨_, rfl⟩
  rw [hx] at c0 hlt
  have HX := Lib.hid hx
  clear hx
  have hp := powN_lt hb
  have i1 : (0 : Int) ≤ (a : Int) := by omega
  have i2 : (a : Int) < (n : Int) := by omega
  have hgl : g < w.heap.size := H.out.blk.lt
  go_enter Tryz.func75, Tryz.ntmps75
  go_region
  go_wp2
  go_returns
  refine ⟨rfl, ?_, ((Kept.refl w (fun k => k = g)).setCell (p := ⟨g, a, none⟩) (.inl rfl) _).drew⟩
  rw [putR, HX.out]
  exact (H.out.set a (orN x (powN b)) (orN_lt hlt hp)).below ((Below.refl _ _).drew)
theorem put_int {w : World} {g n a b : Nat} {i j : Int} {r : List Nat} (h : IsR w g n r) (ei : i = (a : Int)) (ej : j = (b : Int)) (ha : a < n) (hb : b < 32) :
    Calls Tryz.prog 75 #[relV g n, .int .i64 i, .int .i64 j] w fun e w' => e = .returned (.tuple #[]) ∧ IsR w' g n (putR r a b) ∧ Kept w w' (fun k => k = g) := by
  subst ei ej; exact put_any h ha hb
theorem has_any {w : World} {g n a b : Nat} {r : List Nat} (h : IsR w g n r) (ha : a < n) (hb : b < 32) :
    Calls Tryz.prog 80 #[relV g n, .int .i64 (a : Int), .int .i64 (b : Int)] w fun e w' => e = .returned (.bool (hasR r a b)) ∧ w = w' := by
  have c0 := h.cell ha
  have hlt := h.lt a
  unfold hasR bitOf
  clear h
  generalize r.getD a 0 = x at *
  have i1 : (0 : Int) ≤ (a : Int) := by omega
  have i2 : (a : Int) < (n : Int) := by omega
  go_enter Tryz.func80, Tryz.ntmps80
  go_wp2
  go_ret
  exact ⟨rfl, rfl⟩
/-- A new relation. -/
def NewR (n : Nat) (r : List Nat) (w : World) (e : Ending) (w' : World) : Prop := ∃ g, e = .returned (relV g n) ∧ IsR w' g n r ∧ w.heap.size ≤ g ∧ Below w.heap.size w w'
theorem info138 : (Tryz.prog.info? 138).map (fun i => (i.zero, i.size, i.bytes)) = some (some (.int .u32 0), 1, 4) := by kernel_rfl
theorem relation_any {w : World} {A : Option Addr} {n c : Nat} (hn : n ≤ 31) : Calls Tryz.prog 95 #[.slice A n c] w (NewR n (List.replicate n 0) w) := by
  have mk := run_make_rows (P := Tryz.prog) 124 138 (.int .u32 0) 1 4 Tryz.underlying124 info138 n (by omega) (by omega)
  rw [madeCells_one (.int .u32 0) rfl] at mk
  go_enter Tryz.func95, Tryz.ntmps95
  go_wp2
  go_ret
  refine ⟨w.heap.size, rfl, ⟨?_, by simp, fun j => by simp [List.getD, List.getElem?_replicate]; split <;> simp⟩, Nat.le_refl _, (Below.refl _ w).alloc (Nat.le_refl _) _⟩
  have := Blk.new w 138 (List.replicate n (Value.int .u32 0))
  simpa [u32s] using this

/-! Close. -/
def closeIn (k : Nat) (r : List Nat) : Nat → List Nat
  | 0 => r
  | m + 1 => if hasR (closeIn k r m) m k then (closeIn k r m).set m (orN ((closeIn k r m).getD m 0) ((closeIn k r m).getD k 0)) else closeIn k r m
theorem closeIn_length (k : Nat) (r : List Nat) : ∀ m, (closeIn k r m).length = r.length
  | 0 => rfl
  | m + 1 => by rw [closeIn]; split <;> simp [closeIn_length k r m]
def closeTo (n : Nat) (r : List Nat) : Nat → List Nat
  | 0 => r
  | k + 1 => closeIn k (closeTo n r k) n
theorem closeTo_length (n : Nat) (r : List Nat) : ∀ m, (closeTo n r m).length = r.length
  | 0 => rfl
  | m + 1 => by rw [closeTo, closeIn_length, closeTo_length n r m]
def closeF (n : Nat) (r : List Nat) : List Nat := closeTo n r n
set_option maxHeartbeats 1000000 in
theorem close_any {w : World} {g n : Nat} {r : List Nat} (h : IsR w g n r) (hn : n ≤ 31) :
    Calls Tryz.prog 76 #[relV g n] w fun e w' => e = .returned (relV g n) ∧ IsR w' g n (closeF n r) ∧ Kept w w' (fun k => k = g) := by
  have H := Lib.hid h
  clear h
  go_enter Tryz.func76, Tryz.ntmps76
  go_wp2
  go_loopw [7] (fun i wr => ∃ k : Nat, k ≤ n ∧ i = .int .i64 k ∧ IsR wr g n (closeTo n r k) ∧ Kept w wr (fun k => k = g)) (fun i _ => n - (intOf i).toNat)
  case atStart => exact ⟨0, Nat.zero_le _, rfl, H.out, Kept.refl _ _⟩
  case round =>
    obtain ⟨k, hk, rfl, hr, hkp⟩ := hrel
    have HR := Lib.hid hr
    have HK := Lib.hid hkp
    clear hr hkp
    by_cases hlt : k < n
    · have hlt' : (k : Int) < (n : Int) := by omega
      obtain ⟨R, hR⟩ : ∃ R, closeTo n r k = R := ⟨_, rfl⟩
      rw [hR] at HR
      have HRR := Lib.hid hR
      clear hR
      have i1 : (0 : Int) ≤ (k : Int) := by omega
      go_wp2
      go_loopw [12] (fun i wr => ∃ m : Nat, m ≤ n ∧ i = .int .i64 m ∧ IsR wr g n (closeIn k R m) ∧ Kept w wr (fun k => k = g)) (fun i _ => n - (intOf i).toNat)
      case atStart => exact ⟨0, Nat.zero_le _, rfl, HR.out, HK.out⟩
      case round =>
        obtain ⟨m, hm, rfl, hr, hkp⟩ := hrel
        have HR1 := Lib.hid hr
        have HK1 := Lib.hid hkp
        clear hr hkp
        by_cases hlm : m < n
        · have hlm' : (m : Int) < (n : Int) := by omega
          have j1 : (0 : Int) ≤ (m : Int) := by omega
          have c0 := HR1.out.cell hlm
          have c1 := HR1.out.cell hlt
          have f0 := HR1.out.blk.free m
          have x0 := HR1.out.lt m
          have x1 := HR1.out.lt k
          have hgl : g < wr.heap.size := HR1.out.blk.lt
          cases hh : hasR (closeIn k R m) m k with
          | true =>
            have HH := Lib.hid hh
            clear hh
            have hst : Hid (IsR (wr.setCell ⟨g, m, none⟩ (.int .u32 ((orN ((closeIn k R m).getD m 0) ((closeIn k R m).getD k 0) : Nat) : Int))) g n (closeIn k R (m + 1))) := Lib.hid (by
              rw [closeIn, if_pos HH.out]; exact HR1.out.set m _ (orN_lt x0 x1))
            generalize (closeIn k R m).getD m 0 = a at *
            generalize (closeIn k R m).getD k 0 = b at *
            go_upto_region 8 with (go_at_call 80; refine (has_any HR1.out hlm (by omega)).mono ?_; rintro e1 w1 ⟨rfl, rfl⟩; rw [HH.out])
            go_region
            go_wp2
            go_roundw
            case measure => simp [intOf]; omega
            case rel => exact ⟨m + 1, by omega, by go_num, hst.out.below ((Below.refl _ _).drew), ((HK1.out.setCell (p := ⟨g, m, none⟩) (.inl rfl) _).drew)⟩
          | false =>
            have HH := Lib.hid hh
            clear hh
            have hst : Hid (closeIn k R (m + 1) = closeIn k R m) := Lib.hid (by rw [closeIn, HH.out]; rfl)
            go_wp2_with (go_at_call 80; refine (has_any HR1.out hlm (by omega)).mono ?_; rintro e1 w1 ⟨rfl, rfl⟩; rw [HH.out])
            go_roundw
            case measure => simp [intOf]; omega
            case rel => exact ⟨m + 1, by omega, by go_num, by rw [hst.out]; exact HR1.out, HK1.out⟩
        · have hmn : m = n := by omega
          have HMN := Lib.hid hmn
          clear hmn
          go_wp2
          go_roundw
          case measure => simp [intOf]; omega
          case rel => exact ⟨k + 1, by omega, by go_num, by { have h := HR1.out; rw [HMN.out] at h; rw [closeTo, HRR.out]; exact h }, HK1.out⟩
    · have hkn : k = n := by omega
      have HKN := Lib.hid hkn
      clear hkn
      go_wp2
      go_ret
      refine ⟨rfl, ?_, HK.out⟩
      have := HR.out
      rwa [HKN.out] at this
def circleR (n : Nat) (r : List Nat) : Bool := (List.range n).any fun a => hasR r a a
theorem any_range_false {p : Nat → Bool} {n : Nat} (h : ∀ j, j < n → p j = false) : (List.range n).any p = false := by
  rw [List.any_eq_false]; intro x hx; rw [h x (List.mem_range.1 hx)]; decide
theorem any_range_true {p : Nat → Bool} {n k : Nat} (hk : k < n) (h : p k = true) : (List.range n).any p = true := List.any_eq_true.2 ⟨k, List.mem_range.2 hk, h⟩
theorem circle_any {w : World} {g n : Nat} {r : List Nat} (h : IsR w g n r) (hn : n ≤ 31) :
    Calls Tryz.prog 77 #[relV g n] w fun e w' => e = .returned (.bool (circleR n r)) ∧ w = w' := by
  have H := Lib.hid h
  clear h
  go_enter Tryz.func77, Tryz.ntmps77
  go_wp2
  go_loop [6] (fun i => ∃ k : Nat, k ≤ n ∧ i = .int .i64 k ∧ Hid (∀ j, j < k → hasR r j j = false)) (fun i => n - (intOf i).toNat)
  case atStart => exact ⟨0, Nat.zero_le _, rfl, Lib.hid (fun j hj => absurd hj (by omega))⟩
  case round =>
    obtain ⟨k, hk, rfl, hi⟩ := hrel
    by_cases hlt : k < n
    · have hlt' : (k : Int) < (n : Int) := by omega
      have i1 : (0 : Int) ≤ (k : Int) := by omega
      cases hh : hasR r k k with
      | true =>
        have HH := Lib.hid hh
        clear hh
        go_wp2_with (go_at_call 80; refine (has_any H.out hlt (by omega)).mono ?_; rintro e1 w1 ⟨rfl, rfl⟩; rw [HH.out])
        go_ret
        exact ⟨by rw [circleR, any_range_true (p := fun a => hasR r a a) hlt HH.out]; rfl, rfl⟩
      | false =>
        have HH := Lib.hid hh
        clear hh
        go_wp2_with (go_at_call 80; refine (has_any H.out hlt (by omega)).mono ?_; rintro e1 w1 ⟨rfl, rfl⟩; rw [HH.out])
        go_round
        case measure => simp [intOf]; omega
        case rel =>
          refine ⟨k + 1, by omega, by go_num, Lib.hid (fun j hj => ?_)⟩
          by_cases hjk : j = k
          · rw [hjk]; exact HH.out
          · exact hi.out j (by omega)
    · have hkn : k = n := by omega
      have HKN := Lib.hid hkn
      clear hkn
      go_wp2
      go_ret
      exact ⟨by rw [circleR, any_range_false (p := fun a => hasR r a a) (by have := hi.out; rw [HKN.out] at this; exact this)]; rfl, rfl⟩
end Go.Proofs.YtkddckfgdiemkaaGreat
