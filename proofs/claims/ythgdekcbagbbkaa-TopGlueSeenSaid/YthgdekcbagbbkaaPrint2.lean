/-
  A part of a claim: lemmas and contracts of functions of the program; each theorem says what is proved, and its conditions.
-/
import Derived.Test.YthgdekcbagbbkaaPrint1
open Go Go.RowKit
namespace Go.Proofs.X
theorem print_open (wd hi : Int) (a : Option Addr) (n c : Nat) (vs : List Value) (pl : List (List Int)) (w : World) (hj : okJob wd hi pl) (hs : Sl1 w a n c vs) (hr : Rows2 w vs pl) :
    Calls Try.prog 10 #[.agg #[.int .i64 wd, .int .i64 hi, .slice a n c]] w fun e w' => e = .returned (.tuple #[.agg #[.int .i64 wd, .int .i64 hi, .slice a n c], .int .i64 0]) ∧ Below w.heap.size w w' := by
  obtain ⟨w1', w2', h1', h2', p1', p2', hrows⟩ := hj
  have hn : n = pl.length := by rw [← hr.1, hs.len]
  have hn1 : (1 : Int) ≤ n := by omega
  have hn2 : (n : Int) ≤ 3 := by omega
  have m1 := fun a w h => print_within 1 10 a 1 1 [wd] w h
  rw [any_outside_false (by intro x hx; simp at hx; omega)] at m1
  have m2 := fun a w h => print_within 1 6 a 1 1 [hi] w h
  rw [any_outside_false (by intro x hx; simp at hx; omega)] at m2
  have M1 := Lib.hid m1
  have M2 := Lib.hid m2
  have Hs := Lib.hid hs
  have Hr := Lib.hid hr
  have Hrows := Lib.hid hrows
  have Hn := Lib.hid hn
  clear m1 m2 hs hr hrows hn p1' p2'
  go_enter Try.func10, Try.ntmps10
  go_wp2_with fail
  refine (M1.out _ _ (sl1_lit1 _ _ _ _ (by simp))).mono ?_
  rintro e w1 ⟨rfl, hw1⟩
  have q0 : w1.cell? ⟨w.heap.size, 0, none⟩ = some (.int .i64 wd) := cell_later (by simp [go_sem]) hw1
  have q1 : w1.cell? ⟨w.heap.size, 1, none⟩ = some (.int .i64 hi) := cell_later (by simp [go_sem]) hw1
  have q2 : w1.cell? ⟨w.heap.size, 2, none⟩ = some (.slice a n c) := cell_later (by simp [go_sem]) hw1
  have d0 : w1.cell? ⟨w.heap.size + 1, 0, none⟩ = some (.int .i64 0) := cell_later (by simp [go_sem]) hw1
  have d1 : w1.cell? ⟨w.heap.size + 1, 1, none⟩ = some (.int .i64 0) := cell_later (by simp [go_sem]) hw1
  have d2 : w1.cell? ⟨w.heap.size + 1, 2, none⟩ = some (.slice none 0 0) := cell_later (by simp [go_sem]) hw1
  have f0 : w1.frozen? ⟨w.heap.size + 1, 0, none⟩ = false := frozen_later (by simp [go_sem]) (by simp) hw1
  have f1 : w1.frozen? ⟨w.heap.size + 1, 1, none⟩ = false := frozen_later (by simp [go_sem]) (by simp) hw1
  have f2 : w1.frozen? ⟨w.heap.size + 1, 2, none⟩ = false := frozen_later (by simp [go_sem]) (by simp) hw1
  have z1 : w.heap.size + 1 < w1.heap.size := by have := hw1.size; simp at this; omega
  have B1 := Lib.hid (below_tr (below_alloc3 w _ _ _) hw1)
  clear hw1
  go_wp2_with fail
  refine (M2.out _ _ (sl1_lit1 _ _ _ _ (by simp))).mono ?_
  rintro e w2 ⟨rfl, hw2⟩
  have b2 := below_tr (below_alloc _ _) hw2
  replace q0 := cell_later q0 b2
  replace q1 := cell_later q1 b2
  replace q2 := cell_later q2 b2
  replace d0 := cell_later d0 b2
  replace d1 := cell_later d1 b2
  replace d2 := cell_later d2 b2
  replace f0 := frozen_later f0 z1 b2
  replace f1 := frozen_later f1 z1 b2
  replace f2 := frozen_later f2 z1 b2
  replace z1 := Nat.lt_of_lt_of_le z1 b2.size
  have B2 := Lib.hid (below_tr B1.out b2)
  clear hw2 b2
  go_wp2_with fail
  refine (ContainsFunc_ints 22 _ a n c vs (vs.map fun _ => false) _ (Hs.out.below B2.out) eg_print_open1 ?_).mono ?_
  · refine ⟨by simp, fun i v b w3 hv hb hw => ?_⟩
    obtain ⟨r, ar, cr, hri, rfl, hsr⟩ := Hr.out.get hv
    simp only [List.getElem?_map, Option.map_eq_some_iff] at hb
    obtain ⟨_, _, rfl⟩ := hb
    exact print_open1 wd hi (.slice none 0 0) ar r.length cr r w.heap.size w3 w1' w2' (Hrows.out r (List.mem_of_getElem? hri)) ((hsr.below B2.out).below hw) (cell_later q0 hw) (cell_later q1 hw)
  rintro e w3 ⟨rfl, hw3⟩
  rw [show (vs.map fun _ => false).any id = false by simp]
  replace q0 := cell_later q0 hw3
  replace q1 := cell_later q1 hw3
  replace q2 := cell_later q2 hw3
  replace d0 := cell_later d0 hw3
  replace d1 := cell_later d1 hw3
  replace d2 := cell_later d2 hw3
  replace f0 := frozen_later f0 z1 hw3
  replace f1 := frozen_later f1 z1 hw3
  replace f2 := frozen_later f2 z1 hw3
  have B3 := Lib.hid (below_tr B2.out hw3)
  clear hw3
  go_wp2
  exact bodyPost_ret (v := .tuple #[.agg #[.int .i64 wd, .int .i64 hi, .slice a n c], .int .i64 0]) (by simp [results, Try.results10, go_sem, d0, d1, d2]) rfl ⟨rfl, ((B3.out.setCell (by simp) _).setCell (by simp) _).setCell (by simp) _⟩
end Go.Proofs.X
