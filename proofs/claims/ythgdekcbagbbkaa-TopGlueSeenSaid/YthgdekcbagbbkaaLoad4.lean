/-
  A part of a claim: lemmas and contracts of functions of the program; each theorem says what is proved, and its conditions.
-/
import Derived.Test.YthgdekcbagbbkaaLoad3
open Go Go.RowKit Go.Shelf
namespace Go.Proofs.X
theorem print_areInks (a : Option Addr) (n c : Nat) (zs : List Int) (w : World) (h : Sl1 w a n c (ints zs)) :
    Calls Try.prog 34 #[.slice a n c] w (Ends (!(zs.any (outside 1 9))) w) := by
  have H := print_within 1 9 a n c zs w h
  clear h
  generalize (zs.any (outside 1 9)) = b at *
  go_enter Try.func34, Try.ntmps34
  go_wp2_with fail
  refine H.mono ?_
  clear H
  rintro e w1 ⟨rfl, hw1⟩
  go_wp2
  go_ret
  exact ⟨rfl, hw1⟩
theorem print_Load2 (a : Option Addr) (n c : Nat) (zs : List Int) (w : World) (h : Sl1 w a n c (ints zs)) :
    Calls Try.prog 33 #[.slice a n c] w (Ends (zs.any (outside 1 9)) w) := by
  have H := print_areInks a n c zs w h
  clear h
  generalize (zs.any (outside 1 9)) = b at *
  go_enter Try.func33, Try.ntmps33
  go_wp2_with fail
  refine H.mono ?_
  clear H
  rintro e w1 ⟨rfl, hw1⟩
  cases b
  · go_wp2
    go_ret
    exact ⟨rfl, hw1⟩
  · go_wp2
    go_ret
    exact ⟨rfl, hw1⟩
theorem eg_Load2 : ∀ args w, (callFunc 33 args).run Try.prog w = .ok (.enter 33 args) w := enters_of Try.func33 (by kernel_rfl) rfl

theorem print_Load1 (a : Option Addr) (n c : Nat) (st : Int) (p : Addr) (w : World) (hp : w.cell? p = some (.int .i64 st)) :
    Calls Try.prog 32 #[.slice a n c, .pointer (some p)] w (Ends (decide (st < n)) w) := by
  go_enter Try.func32, Try.ntmps32
  go_wp2
  go_ret
  exact ⟨by simp, Below.refl _ _⟩
theorem eg_Load1 : ∀ args w, (callFunc 32 args).run Try.prog w = .ok (.enter 32 args) w := enters_of Try.func32 (by kernel_rfl) rfl

/-- print.isTwice -/
def twiceF (zs : List Int) : Bool := decide ((Lib.compact (asc zs)).length < zs.length)
theorem Compact_own (base n : Nat) (v : Value) (zs : List Int) (w : World) (h : w.ownsRow base 3 1 v n (ints zs)) (hn : (n : Int) ≤ 100000) :
    Calls Try.prog 48 #[v] w fun e w' => ∃ a c, e = .returned (.slice a (Lib.compact zs).length c) ∧ Below base w w' := by
  have hz : zs.length = n := by have := h.1; simpa [ints] using this
  rcases h.2 with ⟨rfl, rfl⟩ | ⟨g, cap, cur, rfl, _⟩
  · obtain rfl : zs = [] := List.length_eq_zero_iff.1 hz
    refine (Try.slices_Compact_int_empty none 0 w).mono ?_
    rintro e w' ⟨rfl, rfl⟩
    exact ⟨none, 0, rfl, Below.refl _ _⟩
  · obtain ⟨hg, hbg, hc, _, hH⟩ := row_holds h
    have := Try.slices_Compact_int g 0 cap zs w hH (by omega) (by omega)
    rw [hz] at this
    refine this.mono ?_
    rintro e w' ⟨rfl, q, rfl⟩
    have hle : (Lib.compact zs).length ≤ n := by
      rw [← hz]
      simp only [Lib.compact, Lib.compactUpTo, List.length_map]
      exact Nat.le_trans (List.length_filter_le _ _) (by simp)
    have := row_laid h hg hbg #[] q (Lib.compact zs ++ List.replicate (n - (Lib.compact zs).length) 0) (by simp; omega)
    rw [Sort.grow_empty] at this
    exact ⟨_, _, rfl, this.2⟩
theorem print_isTwice (a : Option Addr) (n c : Nat) (zs : List Int) (w : World) (h : Sl1 w a n c (ints zs)) (hn : (n : Int) ≤ 1000) :
    Calls Try.prog 35 #[.slice a n c] w (Ends (twiceF zs) w) := by
  have hl : zs.length = n := by have := h.len; simpa [ints] using this
  have ht : twiceF zs = decide (((Lib.compact (asc zs)).length : Int) < n) := by unfold twiceF; rw [hl]; simp
  rw [ht]
  obtain ⟨m, hm⟩ : ∃ m, (Lib.compact (asc zs)).length = m := ⟨_, rfl⟩
  rw [hm]
  have H := Lib.hid h
  have Hl := Lib.hid hl
  have Hm := Lib.hid hm
  clear h hl ht hm
  go_enter Try.func35, Try.ntmps35
  go_wp2_with fail
  refine (values_in a n c w).mono ?_
  rintro e w1 ⟨rfl, rfl⟩
  have b0 := below_alloc w (.cells #[.slice a n c] 23)
  have V := Lib.hid (values_stops w.heap.size a n c zs w (w.alloc (.cells #[.slice a n c] 23)) H.out b0 (by simp) (by simp [go_sem]))
  go_wp2_with fail
  refine (sorted_ints _ _ (enters_of Try.func68 (by kernel_rfl) rfl) _ _ _ n (by omega) _ (by simp) V.out).mono ?_
  rintro e w2 ⟨v, ss, rfl, rfl, hle, hown, hw2⟩
  have B2 := Lib.hid (below_tr b0 hw2)
  have hsz : w.heap.size ≤ (w.alloc (.cells #[.slice a n c] 23)).heap.size := by simp
  have C := Lib.hid (Compact_own _ _ v (asc ss) w2 hown (by omega))
  clear hown hw2 b0 V
  go_wp2_with fail
  refine C.out.mono ?_
  rintro e w3 ⟨a3, c3, rfl, hw3⟩
  have B3 := Lib.hid (B2.out.trans (hw3.mono hsz))
  clear hw3 hsz
  rw [Hm.out]
  go_wp2
  go_ret
  exact ⟨by simp, B3.out⟩
theorem eg_isTwice : ∀ args w, (callFunc 35 args).run Try.prog w = .ok (.enter 35 args) w := enters_of Try.func35 (by kernel_rfl) rfl

end Go.Proofs.X
