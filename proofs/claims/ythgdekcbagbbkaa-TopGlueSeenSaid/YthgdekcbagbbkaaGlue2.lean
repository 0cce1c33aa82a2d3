/-
  A part of a claim: lemmas and contracts of functions of the program; each theorem says what is proved, and its conditions.
-/
import Derived.Test.YthgdekcbagbbkaaGlue
import Derived.Test.YthgdekcbagbbkaaLib2
open Go Go.RowKit
namespace Go.Proofs.X
structure okPlan (s : Int) (noz : List Int) : Prop where
  s1 : 1 ≤ s
  s2 : s ≤ 16
  n1 : 1 ≤ noz.length
  n2 : noz.length ≤ 6
  all : ∀ x ∈ noz, 0 ≤ x ∧ x < 2 ^ s.toNat
theorem glue_open (s : Int) (a : Option Addr) (n c : Nat) (noz : List Int) (w : World) (hp : okPlan s noz) (hs : Sl1 w a n c (ints noz)) :
    Calls Try.prog 27 #[.agg #[.int .i64 s, .slice a n c]] w fun e w' => e = .returned (.tuple #[.agg #[.int .i64 s, .slice a n c], .int .i64 0]) ∧ Below w.heap.size w w' := by
  have s1 := hp.s1
  have s2 := hp.s2
  have hlen : noz.length = n := by have := hs.len; simpa [ints] using this
  have n1 : (1 : Int) ≤ n := by have := hp.n1; omega
  have n2 : (n : Int) ≤ 6 := by have := hp.n2; omega
  have H := Lib.hid hp
  have Hs := Lib.hid hs
  have m1 := fun a w h => glue_within 1 16 a 1 1 [s] w h
  rw [show (!([s].any (outside 1 16))) = true by simp [outside]; omega] at m1
  have M1 := Lib.hid m1
  have m2 := fun w h => glue_within 0 (IntKind.i64.wrap (IntKind.i64.wrap (2 ^ s.toNat) - 1)) a n c noz w h
  rw [any_outside_false (by rw [wrap_mask (by omega) s2]; intro x hx; have := hp.all x hx; omega)] at m2
  have M2 := Lib.hid m2
  clear hp hs m1 m2 hlen
  go_enter Try.func27, Try.ntmps27
  go_wp2_with fail
  refine (M1.out _ _ (sl1_lit1 _ _ _ _ (by simp))).mono ?_
  rintro e w1 ⟨rfl, hw1⟩
  have c0 : w1.cell? ⟨w.heap.size, 0, none⟩ = some (.int .i64 s) := cell_later (by simp [go_sem]) hw1
  have c1 : w1.cell? ⟨w.heap.size, 1, none⟩ = some (.slice a n c) := cell_later (by simp [go_sem]) hw1
  have d0 : w1.cell? ⟨w.heap.size + 1, 0, none⟩ = some (.int .i64 0) := cell_later (by simp [go_sem]) hw1
  have d1 : w1.cell? ⟨w.heap.size + 1, 1, none⟩ = some (.slice none 0 0) := cell_later (by simp [go_sem]) hw1
  have f0 : w1.frozen? ⟨w.heap.size + 1, 0, none⟩ = false := frozen_later (by simp [go_sem]) (by simp) hw1
  have f1 : w1.frozen? ⟨w.heap.size + 1, 1, none⟩ = false := frozen_later (by simp [go_sem]) (by simp) hw1
  have b1 := below_tr (below_alloc3 w _ _ _) hw1
  have z1 : w.heap.size + 1 < w1.heap.size := by have := hw1.size; simp at this; omega
  have Hs1 := Lib.hid (Hs.out.below b1)
  have B1 := Lib.hid b1
  clear hw1 b1
  go_wp2_with fail
  go_region_held3 (fun w' => w'.cell? ⟨w.heap.size, 0, none⟩ = some (.int .i64 s) ∧ w'.cell? ⟨w.heap.size, 1, none⟩ = some (.slice a n c)) (first | go_keep | exact ⟨cell_later (w := w1.drew) c0 hw2, cell_later (w := w1.drew) c1 hw2⟩)
    (first | (go_at_call 29; refine (M2.out _ (Hs1.out.below (below_dr _ 1))).mono ?_; rintro e w2 ⟨rfl, hw2⟩))
  have hw2' : Below w1.heap.size w1 w2 := below_tr (below_dr w1 1) hw2
  replace c0 := cell_later c0 hw2'
  replace c1 := cell_later c1 hw2'
  replace d0 := cell_later d0 hw2'
  replace d1 := cell_later d1 hw2'
  replace f0 := frozen_later f0 z1 hw2'
  replace f1 := frozen_later f1 z1 hw2'
  have B2 := Lib.hid (below_tr B1.out hw2')
  clear hw2 hw2' Hs1
  go_wp2
  exact bodyPost_ret (v := .tuple #[.agg #[.int .i64 s, .slice a n c], .int .i64 0]) (by simp [results, Try.results27, go_sem, d0, d1]) rfl ⟨rfl, (B2.out.setCell (by simp) _).setCell (by simp) _⟩
end Go.Proofs.X
