/-
  A part of a claim: lemmas and contracts of functions of the program; each theorem says what is proved, and its conditions.
-/
import Derived.Test.YthgdekcbagbbkaaGlue8
open Go Go.RowKit
namespace Go.Proofs.X
theorem glue_explained (s : Int) (a : Option Addr) (n c : Nat) (noz : List Int) (a2 : Option Addr) (c2' : Nat) (x : Int) (w : World) (hp : okPlan s noz) (hs : Sl1 w a n c (ints noz)) (hf : Sl1 w a2 1 c2' (ints [x])) (h1 : 0 ≤ x) (h2 : x ≤ 1000) (hsp : ∀ x, a2 = some x → x.spot = none) :
    Calls Try.prog 38 #[.agg #[.int .i64 s, .slice a n c], .slice a2 1 c2', .slice none 0 0] w fun e w' => ∃ av cv m xs, e = .returned (.tuple #[.agg #[.int .i64 s, .slice a n c], .slice av m cv, .int .i64 0]) ∧ w'.ownsRow w.heap.size 44 1 (.slice av m cv) m xs ∧ allSl xs ∧ m = 1 + (c1 n [x]).length + pairsTo (c1 n [x]) (c1 n [x]).length ∧ Below w.heap.size w w' := by
  have hn : (n : Int) ≤ 6 := by have := hp.n2; have := hs.len; simp [ints] at this; omega
  have Hp := Lib.hid hp
  have Hs := Lib.hid hs
  have Hf := Lib.hid hf
  have Hsp := Lib.hid hsp
  clear hp hs hf hsp
  go_enter Try.func38, Try.ntmps38
  have h0 := below_alloc3 w (.cells #[.int .i64 s, .slice a n c] 28) (.cells #[.slice none 0 0] 82) (.cells #[.int .i64 0, .slice none 0 0] 61)
  go_wp2_with fail
  refine (glue_open s a n c noz _ Hp.out (Hs.out.below h0)).mono ?_
  rintro e w1 ⟨rfl, hw1⟩
  have l0 : w1.cell? ⟨w.heap.size + 1, 0, none⟩ = some (.slice none 0 0) := cell_later (by simp [go_sem]) hw1
  have d0 : w1.cell? ⟨w.heap.size + 2, 0, none⟩ = some (.int .i64 0) := cell_later (by simp [go_sem]) hw1
  have d1 : w1.cell? ⟨w.heap.size + 2, 1, none⟩ = some (.slice none 0 0) := cell_later (by simp [go_sem]) hw1
  have f0 : w1.frozen? ⟨w.heap.size + 2, 0, none⟩ = false := frozen_later (by simp [go_sem]) (by simp) hw1
  have f1 : w1.frozen? ⟨w.heap.size + 2, 1, none⟩ = false := frozen_later (by simp [go_sem]) (by simp) hw1
  have z1 : w.heap.size + 2 < w1.heap.size := by have := hw1.size; simp at this; omega
  have b1 := below_tr h0 hw1
  have B1 := Lib.hid b1
  clear h0 hw1 b1
  go_wp2_with fail
  have l2 : ((w1.setCell ⟨w.heap.size + 1 + 1, 0, none⟩ (.int .i64 s)).setCell ⟨w.heap.size + 1 + 1, 1, none⟩ (.slice a n c)).cell? ⟨w.heap.size + 1, 0, none⟩ = some (.slice none 0 0) := cell_set_ne (cell_set_ne l0 (by omega)) (by omega)
  have p0 : ((w1.setCell ⟨w.heap.size + 1 + 1, 0, none⟩ (.int .i64 s)).setCell ⟨w.heap.size + 1 + 1, 1, none⟩ (.slice a n c)).cell? ⟨w.heap.size + 1 + 1, 0, none⟩ = some (.int .i64 s) := by simp [go_sem, d0, d1]
  have p1 : ((w1.setCell ⟨w.heap.size + 1 + 1, 0, none⟩ (.int .i64 s)).setCell ⟨w.heap.size + 1 + 1, 1, none⟩ (.slice a n c)).cell? ⟨w.heap.size + 1 + 1, 1, none⟩ = some (.slice a n c) := by simp [go_sem, d0, d1]
  have g0 : ((w1.setCell ⟨w.heap.size + 1 + 1, 0, none⟩ (.int .i64 s)).setCell ⟨w.heap.size + 1 + 1, 1, none⟩ (.slice a n c)).frozen? ⟨w.heap.size + 1 + 1, 0, none⟩ = false := by simp [go_sem, f0]
  have g1 : ((w1.setCell ⟨w.heap.size + 1 + 1, 0, none⟩ (.int .i64 s)).setCell ⟨w.heap.size + 1 + 1, 1, none⟩ (.slice a n c)).frozen? ⟨w.heap.size + 1 + 1, 1, none⟩ = false := by simp [go_sem, f1]
  have z2 : w.heap.size + 1 + 1 < ((w1.setCell ⟨w.heap.size + 1 + 1, 0, none⟩ (.int .i64 s)).setCell ⟨w.heap.size + 1 + 1, 1, none⟩ (.slice a n c)).heap.size := by simp; omega
  have B2 := Lib.hid (show Below w.heap.size w ((w1.setCell ⟨w.heap.size + 1 + 1, 0, none⟩ (.int .i64 s)).setCell ⟨w.heap.size + 1 + 1, 1, none⟩ (.slice a n c)) from (B1.out.setCell (by simp; omega) _).setCell (by simp; omega) _)
  clear l0 d0 d1 f0 f1 z1 B1
  generalize (w1.setCell ⟨w.heap.size + 1 + 1, 0, none⟩ (.int .i64 s)).setCell ⟨w.heap.size + 1 + 1, 1, none⟩ (.slice a n c) = W2 at *
  refine (glue_checkLooks s a n c a2 c2' x _ hn (Hf.out.below B2.out) h1 h2 Hsp.out).mono ?_
  rintro e w3 ⟨rfl, hw3⟩
  replace l2 := cell_later l2 hw3
  replace p0 := cell_later p0 hw3
  replace p1 := cell_later p1 hw3
  replace g0 := frozen_later g0 z2 hw3
  replace g1 := frozen_later g1 z2 hw3
  replace z2 := Nat.lt_of_lt_of_le z2 hw3.size
  have B3 := Lib.hid (below_tr B2.out hw3)
  have Z3 := Lib.hid z2
  clear hw3
  go_wp2_with fail
  refine (glue_states s a n c a2 1 c2' [x] _ hn (Hf.out.below B3.out) (by omega)).mono ?_
  rintro e w4 ⟨v, m, xs, rfl, hown, hm, hw4⟩
  replace l2 := cell_later l2 hw4
  replace p0 := cell_later p0 hw4
  replace p1 := cell_later p1 hw4
  replace g0 := frozen_later g0 z2 hw4
  replace g1 := frozen_later g1 z2 hw4
  replace z2 := Nat.lt_of_lt_of_le z2 hw4.size
  have B4 := Lib.hid (below_tr B3.out hw4)
  obtain ⟨av, cv, rfl, hsl⟩ := own_sl1 hown
  have Hown := Lib.hid (And.intro hown hm)
  have Hsl := Lib.hid hsl
  clear hw4 hown hm hsl
  go_wp2_with fail
  refine (DeleteFunc_none 59 _ av m cv xs _ Hsl.out eg_glue_explained1 ?_).mono ?_
  · refine ⟨by simp, fun i v b w1 hv hb hw => ?_⟩
    obtain ⟨a', k', c', rfl⟩ := Hown.out.2.1 v (List.mem_of_getElem? hv)
    simp only [List.getElem?_map, Option.map_eq_some_iff] at hb
    obtain ⟨_, _, rfl⟩ := hb
    exact glue_explained1 a' k' c' (w.heap.size + 1) _ w1 (cell_later l2 hw)
  rintro e w5 ⟨rfl, hw5⟩
  replace p0 := cell_later p0 hw5
  replace p1 := cell_later p1 hw5
  replace g0 := frozen_later g0 z2 hw5
  replace g1 := frozen_later g1 z2 hw5
  have B5 := Lib.hid (below_tr B4.out hw5)
  have Ho5 := Lib.hid (And.intro (own_below Hown.out.1 hw5) Hown.out.2)
  have hmc : (0 : Int) < (m : Int) := by have := Hown.out.2.2; omega
  clear hw5
  go_wp2
  have ho := (ownsRow_setCell_below (ownsRow_setCell_below Ho5.out.1 (a := ⟨w.heap.size + 1 + 1, 0, none⟩) Z3.out (.int .i64 s)) (a := ⟨w.heap.size + 1 + 1, 1, none⟩) Z3.out (.slice a n c))
  exact bodyPost_ret (v := .tuple #[.agg #[.int .i64 s, .slice a n c], .slice av m cv, .int .i64 0]) (by simp [results, Try.results38, go_sem, p0, p1]) rfl ⟨av, cv, m, xs, rfl, own_mono ho B3.out.size, Ho5.out.2.1, Ho5.out.2.2, (B5.out.setCell (by simp; omega) _).setCell (by simp; omega) _⟩
end Go.Proofs.X
