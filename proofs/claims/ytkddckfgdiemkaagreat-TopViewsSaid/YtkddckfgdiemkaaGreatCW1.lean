/-
  The walks of the library's functions over lists of numbers: Clone, Clip, IndexFunc, ContainsFunc, Index, Equal.
-/
import Derived.Test.YtkddckfgdiemkaaGreatCBase
import Derived.Lib.SliceRun
set_option linter.unusedVariables false
set_option linter.unusedSimpArgs false
namespace Go.Proofs.YtkddckfgdiemkaaGreat
open Go.RowKit Mem
set_option maxRecDepth 100000

def Made (l : List Int) (w : World) (e : Ending) (w' : World) : Prop := ∃ u, e = .returned u ∧ Own w' w.heap.size u l ∧ Below w.heap.size w w'
def MadeB (l : List Bool) (w : World) (e : Ending) (w' : World) : Prop := ∃ u, e = .returned u ∧ OwnB w' w.heap.size u l ∧ Below w.heap.size w w'
def Tells (w : World) (b : Bool) (e : Ending) (w' : World) : Prop := e = .returned (.bool b) ∧ Below w.heap.size w w'
def TellsI (w : World) (n : Int) (e : Ending) (w' : World) : Prop := e = .returned (.int .i64 n) ∧ Below w.heap.size w w'

/-- A copy of a list of numbers. -/
theorem iclone_any {w : World} {B : Nat} {v : Value} {l : List Int} (h : Own w B v l) (hl : l.length < 1000000) :
    Calls Tryz.prog 66 #[v] w (Made l w) := by
  rcases h.2 with ⟨rfl, hn⟩ | ⟨g, cap, cur, rfl, hb, hg, hc1, hc2, hc3, hc4⟩
  · obtain rfl := List.eq_nil_of_length_eq_zero hn
    have he := fun W0 : World => Lib.run_eql_slice_nil (P := Tryz.prog) W0 28 3 none 0 0 0 0 Tryz.underlying28
    go_enter Tryz.func66, Tryz.ntmps66
    go_wp2
    go_ret
    exact ⟨_, rfl, World.ownsRow_nil _ _ _ _, Below.refl _ _⟩
  · obtain ⟨i0, hi0, hz0, hz1, hz2⟩ := info_one info3
    obtain ⟨hlen, A', c', hv, _, _, hcell⟩ := Row.rd h
    have H := Lib.hid h
    clear h
    have he := fun W0 : World => Lib.run_eql_slice_nil (P := Tryz.prog) W0 28 3 (some ⟨g, 0, none⟩) l.length cap 0 0 Tryz.underlying28
    go_enter Tryz.func66, Tryz.ntmps66
    go_wp2_with (at_builtin; refine wpList_append_own_at _ rfl (.tmp 5) (.tmp 6) 28 rfl w.heap.size 3 i0 _ 1 8 Tryz.underlying28 hi0 hz0 hz1 hz2 rfl (by decide) (.slice (some ⟨w.heap.size, 0, none⟩) 0 0) 0 [] rfl ?c0 ⟨g, 0, none⟩ l.length cap (ints l) rfl (by simp [ints]) ?c1 ?c2 ?c3 ?c4 ?c5 ?_)
    case c0 => exact World.ownsRow_made w #[] 0 (Nat.le_refl _) (by simp [maxLen]) (by simp)
    case c1 =>
      intro j u hu
      have hj : j < (ints l).length := (List.getElem?_eq_some_iff.1 hu).1
      obtain ⟨b', off', hA, hlt, hc⟩ := hcell (by rw [ints_length] at hj; omega)
      injection hA with hA
      injection hA with hA1 hA2
      subst hA1 hA2
      rw [show (⟨g, 0, none⟩ : Addr).add j = ⟨g, 0 + j, none⟩ by unfold Addr.add; split <;> simp_all, World.cell?_alloc_past _ _ _ hlt]
      exact hc j u hu
    case c2 => exact ints_one l
    case c3 => simp only [maxLen]; omega
    case c4 => omega
    case c5 => simp
    intro v1 w1 hown hgr _ _
    have HO := Lib.hid (show Own w1 w.heap.size v1 l by simpa [Own, ints] using hown)
    have hbel : Below w.heap.size w w1 := ((Below.refl _ w).alloc (Nat.le_refl _) _).grown hgr (by simp) (fun k hk => by simp [Value.ownBlock] at hk; omega)
    clear hcell hgr hown
    go_wp2
    go_ret
    exact ⟨v1, rfl, HO.out, hbel⟩
/-- A copy of a list of bools. -/
theorem bclone_any {w : World} {B : Nat} {v : Value} {l : List Bool} (h : OwnB w B v l) (hl : l.length < 1000000) :
    Calls Tryz.prog 81 #[v] w (MadeB l w) := by
  rcases h.2 with ⟨rfl, hn⟩ | ⟨g, cap, cur, rfl, hb, hg, hc1, hc2, hc3, hc4⟩
  · obtain rfl := List.eq_nil_of_length_eq_zero hn
    have he := fun W0 : World => Lib.run_eql_slice_nil (P := Tryz.prog) W0 32 4 none 0 0 0 0 Tryz.underlying32
    go_enter Tryz.func81, Tryz.ntmps81
    go_wp2
    go_ret
    exact ⟨_, rfl, World.ownsRow_nil _ _ _ _, Below.refl _ _⟩
  · obtain ⟨i0, hi0, hz0, hz1, hz2⟩ := info_one info4
    obtain ⟨hlen, A', c', hv, _, _, hcell⟩ := Row.rd h
    have H := Lib.hid h
    clear h
    have he := fun W0 : World => Lib.run_eql_slice_nil (P := Tryz.prog) W0 32 4 (some ⟨g, 0, none⟩) l.length cap 0 0 Tryz.underlying32
    go_enter Tryz.func81, Tryz.ntmps81
    go_wp2_with (at_builtin; refine wpList_append_own_at _ rfl (.tmp 5) (.tmp 6) 32 rfl w.heap.size 4 i0 _ 1 1 Tryz.underlying32 hi0 hz0 hz1 hz2 rfl (by decide) (.slice (some ⟨w.heap.size, 0, none⟩) 0 0) 0 [] rfl ?c0 ⟨g, 0, none⟩ l.length cap (bools l) rfl (by simp [bools]) ?c1 ?c2 ?c3 ?c4 ?c5 ?_)
    case c0 => exact World.ownsRow_made w #[] 0 (Nat.le_refl _) (by simp [maxLen]) (by simp)
    case c1 =>
      intro j u hu
      have hj : j < (bools l).length := (List.getElem?_eq_some_iff.1 hu).1
      obtain ⟨b', off', hA, hlt, hc⟩ := hcell (by rw [bools_length] at hj; omega)
      injection hA with hA
      injection hA with hA1 hA2
      subst hA1 hA2
      rw [show (⟨g, 0, none⟩ : Addr).add j = ⟨g, 0 + j, none⟩ by unfold Addr.add; split <;> simp_all, World.cell?_alloc_past _ _ _ hlt]
      exact hc j u hu
    case c2 => exact bools_one l
    case c3 => simp only [maxLen]; omega
    case c4 => omega
    case c5 => simp
    intro v1 w1 hown hgr _ _
    have HO := Lib.hid (show OwnB w1 w.heap.size v1 l by simpa [OwnB, bools] using hown)
    have hbel : Below w.heap.size w w1 := ((Below.refl _ w).alloc (Nat.le_refl _) _).grown hgr (by simp) (fun k hk => by simp [Value.ownBlock] at hk; omega)
    clear hcell hgr hown
    go_wp2
    go_ret
    exact ⟨v1, rfl, HO.out, hbel⟩
/-- Clip keeps the list, and leaves no room. -/
theorem clip_any {w : World} {A : Option Addr} {n c : Nat} (h : n ≤ c) :
    Calls Tryz.prog 72 #[.slice A n c] w fun e w' => e = .returned (.slice A n n) ∧ w = w' := by
  have h1 : (0 : Int) ≤ (n : Int) := by omega
  have h2 : (n : Int) ≤ (c : Int) := by omega
  go_enter Tryz.func72, Tryz.ntmps72
  go_wp2
  go_ret
  exact ⟨rfl, rfl⟩

/-- Where in a list what is asked is first the case, from k on; -1: nowhere. -/
def findFrom (q : Int → Bool) : Nat → List Int → Int
  | _, [] => -1
  | k, y :: t => if q y then (k : Int) else findFrom q (k + 1) t
theorem findFrom_drop {l : List Int} {k : Nat} (q : Int → Bool) (h : k < l.length) : findFrom q k (l.drop k) = if q l[k] then (k : Int) else findFrom q (k + 1) (l.drop (k + 1)) := by
  rw [List.drop_eq_getElem_cons h]; rfl
theorem findFrom_any (q : Int → Bool) : ∀ (l : List Int) (k : Nat), decide (0 ≤ findFrom q k l) = l.any q
  | [], _ => rfl
  | y :: t, k => by
    have ih := findFrom_any q t (k + 1)
    simp only [findFrom, List.any_cons] at ih ⊢
    split
    · rename_i h; simp [h]
    · rename_i h; simp [h, ih]
/-- What a closure tells of a number, wherever it is asked. -/
def Asks (w : World) (f : Nat) (cs : Array Value) (q : Int → Bool) (l : List Int) : Prop := ∀ x ∈ l, ∀ W, Below w.heap.size w W → Calls Tryz.prog f (#[.int .i64 x] ++ cs) W (Tells W (q x))
set_option maxHeartbeats 400000 in
theorem indexfunc_any {w : World} {v : Value} {l : List Int} {q : Int → Bool} {bp be : Nat} (h : RdI w v l) (hf : Asks w 71 #[.pointer (some ⟨bp, 0, none⟩), .pointer (some ⟨be, 0, none⟩)] q l) :
    Calls Tryz.prog 93 #[v, .func (.func 71) #[] #[.pointer (some ⟨bp, 0, none⟩), .pointer (some ⟨be, 0, none⟩)]] w (TellsI w (findFrom q 0 l)) := by
  obtain ⟨A, c, rfl, hc1, hc2⟩ := h.shape
  have hrd := Lib.hid h
  have HF := Lib.hid hf
  clear h hf
  go_enter Tryz.func93, Tryz.ntmps93
  go_wp2
  go_loopw [8] (fun i wr => ∃ k : Nat, k ≤ l.length ∧ i = .int .i64 k ∧ findFrom q 0 l = findFrom q k (l.drop k) ∧ Below w.heap.size w wr) (fun i _ => l.length - (intOf i).toNat)
  case atStart => exact ⟨0, Nat.zero_le _, rfl, by rw [List.drop_zero], Below.refl _ _⟩
  case round =>
    obtain ⟨k, hk, rfl, hi, hbel⟩ := hrel
    have Hi := Lib.hid hi
    have HB := Lib.hid hbel
    clear hi hbel
    by_cases hlt : k < l.length
    · obtain ⟨b, off, rfl, hb, hcell⟩ := (hrd.out.below HB.out).one hlt
      have d0 := hcell.trans (ints_at l k hlt)
      clear hcell
      have Hd := Lib.hid (findFrom_drop q hlt)
      cases hx : q l[k] with
      | true =>
        have Hx := Lib.hid hx
        clear hx
        go_wp2_with (go_at_call 71; refine (HF.out _ (List.getElem_mem hlt) _ HB.out).mono ?_; rintro e w' ⟨rfl, hb1⟩; rw [Hx.out])
        go_ret
        exact ⟨by rw [Hi.out, Hd.out, if_pos Hx.out]; rfl, HB.out.trans (hb1.mono HB.out.size)⟩
      | false =>
        have Hx := Lib.hid hx
        clear hx
        go_wp2_with (go_at_call 71; refine (HF.out _ (List.getElem_mem hlt) _ HB.out).mono ?_; rintro e w' ⟨rfl, hb1⟩; rw [Hx.out])
        go_roundw
        case measure => simp [intOf]; omega
        case rel => exact ⟨k + 1, by omega, by go_num, by rw [Hi.out, Hd.out, if_neg (by rw [Hx.out]; decide)], HB.out.trans (hb1.mono HB.out.size)⟩
    · have hkn : k = l.length := by omega
      have Hkn := Lib.hid hkn
      clear hkn
      go_wp2
      go_ret
      exact ⟨by rw [Hi.out, Hkn.out, List.drop_length]; rfl, HB.out⟩
theorem containsfunc_any {w : World} {v : Value} {l : List Int} {q : Int → Bool} {bp be : Nat} (h : RdI w v l) (hf : Asks w 71 #[.pointer (some ⟨bp, 0, none⟩), .pointer (some ⟨be, 0, none⟩)] q l) :
    Calls Tryz.prog 70 #[v, .func (.func 71) #[] #[.pointer (some ⟨bp, 0, none⟩), .pointer (some ⟨be, 0, none⟩)]] w (Tells w (l.any q)) := by
  have hrd := Lib.hid h
  have HF := Lib.hid hf
  have H := Lib.hid (findFrom_any q l 0)
  clear h hf
  go_enter Tryz.func70, Tryz.ntmps70
  go_wp2_with (go_at_call 93; refine (indexfunc_any hrd.out HF.out).mono ?_; rintro e w' ⟨rfl, hb⟩)
  go_ret
  exact ⟨by rw [← H.out]; rfl, hb⟩
set_option maxHeartbeats 400000 in
theorem index_any {w : World} {v : Value} {l : List Int} {x : Int} (h : RdI w v l) :
    Calls Tryz.prog 67 #[v, .int .i64 x] w fun e w' => e = .returned (.int .i64 (findFrom (fun y => decide (x = y)) 0 l)) ∧ w = w' := by
  obtain ⟨A, c, rfl, hc1, hc2⟩ := h.shape
  have hrd := Lib.hid h
  clear h
  go_enter Tryz.func67, Tryz.ntmps67
  go_wp2
  go_loop [8] (fun i => ∃ k : Nat, k ≤ l.length ∧ i = .int .i64 k ∧ findFrom (fun y => decide (x = y)) 0 l = findFrom (fun y => decide (x = y)) k (l.drop k)) (fun i => l.length - (intOf i).toNat)
  case atStart => exact ⟨0, Nat.zero_le _, rfl, by rw [List.drop_zero]⟩
  case round =>
    obtain ⟨k, hk, rfl, hi⟩ := hrel
    have Hi := Lib.hid hi
    clear hi
    by_cases hlt : k < l.length
    · obtain ⟨b, off, rfl, hb, hcell⟩ := hrd.out.one hlt
      have d0 := hcell.trans (ints_at l k hlt)
      clear hcell
      have Hd := Lib.hid (findFrom_drop (fun y => decide (x = y)) hlt)
      by_cases hx : x = l[k]
      · have hxb : (x == l[k]) = true := beq_iff_eq.2 hx
        have Hx := Lib.hid hx
        clear hx
        go_wp2
        go_ret
        exact ⟨by rw [Hi.out, Hd.out, if_pos (decide_eq_true Hx.out)]; rfl, rfl⟩
      · have hxb : (x == l[k]) = false := beq_eq_false_iff_ne.2 hx
        have Hx := Lib.hid hx
        clear hx
        go_wp2
        go_round
        case measure => simp [intOf]; omega
        case rel => exact ⟨k + 1, by omega, by go_num, by rw [Hi.out, Hd.out, if_neg (by rw [decide_eq_false Hx.out]; decide)]⟩
    · have hkn : k = l.length := by omega
      have Hkn := Lib.hid hkn
      clear hkn
      go_wp2
      go_ret
      exact ⟨by rw [Hi.out, Hkn.out, List.drop_length]; rfl, rfl⟩
theorem take_eq_snoc {a b : List Int} {k : Nat} (ha : k < a.length) (hb : k < b.length) (h : a.take k = b.take k) (e : a[k] = b[k]) : a.take (k + 1) = b.take (k + 1) := by
  rw [take_snoc ha, take_snoc hb, h, e]
set_option maxHeartbeats 800000 in
theorem equal_any {w : World} {u v : Value} {a b : List Int} (ha : RdI w u a) (hb : RdI w v b) :
    Calls Tryz.prog 23 #[u, v] w (Tells w (decide (a = b))) := by
  obtain ⟨A, c, rfl, hc1, hc2⟩ := ha.shape
  obtain ⟨A', c', rfl, hc1', hc2'⟩ := hb.shape
  have hra := Lib.hid ha
  have hrb := Lib.hid hb
  clear ha hb
  by_cases hne : a.length = b.length
  · have hlb : ((a.length : Int) == (b.length : Int)) = true := beq_iff_eq.2 (by omega)
    have Hne := Lib.hid hne
    clear hne
    go_enter Tryz.func23, Tryz.ntmps23
    go_wp2
    go_loopw [13] (fun i wr => ∃ k : Nat, k ≤ a.length ∧ i = .int .i64 k ∧ Hid (a.take k = b.take k) ∧ Below w.heap.size w wr) (fun i _ => a.length - (intOf i).toNat)
    case atStart => exact ⟨0, Nat.zero_le _, rfl, by show _ = _; rfl, Below.refl _ _⟩
    case round =>
      obtain ⟨k, hk, rfl, hi, hbel⟩ := hrel
      have HB := Lib.hid hbel
      clear hbel
      by_cases hlt : k < a.length
      · have hltb : k < b.length := by have := Hne.out; omega
        obtain ⟨g, off, rfl, hg, hcell⟩ := (hra.out.below HB.out).one hlt
        obtain ⟨g', off', rfl, hg', hcell'⟩ := (hrb.out.below HB.out).one hltb
        have d0 := hcell.trans (ints_at a k hlt)
        have d1 := hcell'.trans (ints_at b k hltb)
        clear hcell hcell'
        by_cases hx : a[k] = b[k]
        · have hxb : (a[k] == b[k]) = true := beq_iff_eq.2 hx
          have Hs := Lib.hid (take_eq_snoc hlt hltb hi.out hx)
          clear hx
          go_wp2_with fail
          go_quiet (fail)
          go_wp2
          go_roundw
          case measure => simp [intOf]; omega
          case rel => exact ⟨k + 1, by omega, by go_num, Hs, HB.out.drewN _⟩
        · have hxb : (a[k] == b[k]) = false := beq_eq_false_iff_ne.2 hx
          have Hx := Lib.hid (show a ≠ b from fun e => hx (by subst e; rfl))
          clear hx
          go_wp2_with fail
          go_quiet (fail)
          go_wp2
          go_ret
          exact ⟨by rw [decide_eq_false Hx.out]; rfl, HB.out.drewN _⟩
      · have hkn : k = a.length := by omega
        have Hs := Lib.hid (show a = b by have e := hi.out; rw [hkn, List.take_length, Hne.out, List.take_length] at e; exact e)
        clear hkn
        go_wp2
        go_ret
        exact ⟨by rw [decide_eq_true Hs.out]; rfl, HB.out⟩
  · have hlb : ((a.length : Int) == (b.length : Int)) = false := beq_eq_false_iff_ne.2 (by omega)
    have Hx := Lib.hid (show a ≠ b from fun e => hne (by subst e; rfl))
    clear hne
    go_enter Tryz.func23, Tryz.ntmps23
    go_wp2
    go_ret
    exact ⟨by rw [decide_eq_false Hx.out]; rfl, Below.refl _ _⟩
end Go.Proofs.YtkddckfgdiemkaaGreat
