/-
  A part of a claim: lemmas and contracts of functions of the program; each theorem says what is proved, and its conditions.
-/
import Derived.Test.YthgdekcbagbbkaaGen
import Derived.Test.YthgdekcbagbbkaaLib3
import Derived.Test.YthgdekcbagbbkaaSplit
import Derived.Test.YthgdekcbagbbkaaClone
open Go Go.RowKit
namespace Go.Proofs.X
theorem print_areShifts (a : Option Addr) (n c : Nat) (l : List Int) (w : World) (h : Sl1 w a n c (ints l)) :
    Calls Try.prog 12 #[.slice a n c] w (Ends (!(l.any (outside (-2) 2))) w) := by
  have H := Lib.hid h
  clear h
  go_enter Try.func12, Try.ntmps12
  go_wp2_with fail
  refine (print_within (-2) 2 a n c l _ H.out).mono ?_
  rintro e w1 ⟨rfl, hw⟩
  go_wp2
  go_ret
  exact ⟨by simp, hw⟩
theorem print_Show1 (x y : Int) (w : World) (h1 : -2 ≤ x) (h2 : x ≤ 2) (h3 : -2 ≤ y) (h4 : y ≤ 2) :
    Calls Try.prog 11 #[.agg #[.int .i64 x, .int .i64 y]] w (Ends false w) := by
  have m := fun a w h => print_areShifts a 2 2 [x, y] w h
  rw [any_outside_false (by intro z hz; simp at hz; omega)] at m
  have M := Lib.hid m
  clear m
  go_enter Try.func11, Try.ntmps11
  go_wp2_with fail
  refine (M.out _ _ (sl1_lit _ [.int .i64 x, .int .i64 y] 2 _ 3 (by simp) rfl (by omega))).mono ?_
  rintro e w1 ⟨rfl, hw⟩
  go_wp2
  go_ret
  exact ⟨by simp, below_tr (below_alloc2 _ _ _) hw⟩
theorem eg_print_Show1 : ∀ args w, (callFunc 11 args).run Try.prog w = .ok (.enter 11 args) w := enters_of Try.func11 (by kernel_rfl) rfl

def okRow (wd hi : Int) (rows : List Int) : Prop := (rows.length : Int) = hi ∧ ∀ x ∈ rows, 0 ≤ x ∧ x < 2 ^ wd.toNat
structure okJob (wd hi : Int) (pl : List (List Int)) : Prop where
  w1 : 1 ≤ wd
  w2 : wd ≤ 10
  h1 : 1 ≤ hi
  h2 : hi ≤ 6
  p1 : 1 ≤ pl.length
  p2 : pl.length ≤ 3
  rows : ∀ r ∈ pl, okRow wd hi r
def Rows2 (w : World) (vs : List Value) (pl : List (List Int)) : Prop := vs.length = pl.length ∧ ∀ (i : Nat) (v : Value) (r : List Int), vs[i]? = some v → pl[i]? = some r → ∃ a c, v = .slice a r.length c ∧ Sl1 w a r.length c (ints r)
theorem Rows2.below {w w' : World} {vs : List Value} {pl : List (List Int)} (h : Rows2 w vs pl) (hb : Below w.heap.size w w') : Rows2 w' vs pl :=
  ⟨h.1, fun i v r hv hr => let ⟨a, c, h1, h2⟩ := h.2 i v r hv hr; ⟨a, c, h1, h2.below hb⟩⟩
theorem Rows2.get {w : World} {vs : List Value} {pl : List (List Int)} (h : Rows2 w vs pl) {i : Nat} {v : Value} (hv : vs[i]? = some v) : ∃ r a c, pl[i]? = some r ∧ v = .slice a r.length c ∧ Sl1 w a r.length c (ints r) := by
  have hi : i < pl.length := by rw [← h.1]; exact (List.getElem?_eq_some_iff.1 hv).1
  obtain ⟨a, c, h1, h2⟩ := h.2 i v pl[i] hv (List.getElem?_eq_getElem hi)
  exact ⟨_, a, c, List.getElem?_eq_getElem hi, h1, h2⟩
theorem print_open1 (wd hi : Int) (pv : Value) (a : Option Addr) (n c : Nat) (rows : List Int) (p : Nat) (w : World) (h1 : 1 ≤ wd) (h2 : wd ≤ 10) (hr : okRow wd hi rows) (hs : Sl1 w a n c (ints rows)) (p0 : w.cell? ⟨p, 0, none⟩ = some (.int .i64 wd)) (p1 : w.cell? ⟨p, 1, none⟩ = some (.int .i64 hi)) :
    Calls Try.prog 22 #[.slice a n c, .pointer (some ⟨p, 0, none⟩)] w (Ends false w) := by
  have hlen : rows.length = n := by have := hs.len; simpa [ints] using this
  have hi' : hi = (n : Int) := by rw [← hr.1, hlen]
  subst hi'
  have m2 := fun w h => print_within 0 (wrap64 (wrap64 (2 ^ wd.toNat) - 1)) a n c rows w h
  rw [any_outside_false (by rw [wrap64_mask (by omega) (by omega)]; intro x hx; have := hr.2 x hx; omega)] at m2
  have M2 := Lib.hid m2
  have Hs := Lib.hid hs
  have hcap := hs.cap
  have hbig := hs.big
  clear m2 hs hr hlen
  go_enter Try.func22, Try.ntmps22
  go_wp2_with fail
  refine (M2.out _ Hs.out).mono ?_
  rintro e w1 ⟨rfl, hw⟩
  go_wp2
  go_ret
  exact ⟨by simp, hw⟩
theorem eg_print_open1 : ∀ args w, (callFunc 22 args).run Try.prog w = .ok (.enter 22 args) w := enters_of Try.func22 (by kernel_rfl) rfl

end Go.Proofs.X
