/-
  A part of a claim: lemmas and contracts of functions of the program; each theorem says what is proved, and its conditions.
-/
import Derived.Test.YthgdekcbagbbkaaGlue7
open Go Go.RowKit
namespace Go.Proofs.X
theorem IsSorted_one (a : Option Addr) (c : Nat) (w : World) :
    Calls Try.prog 72 #[.slice a 1 c] w (Ends true w) := by
  go_enter Try.func72, Try.ntmps72
  go_wp2
  go_loopg [3] 1 (fun g i wr => i = .int .i64 0 ∧ Aside (Below w.heap.size w wr))
  case atStart => exact ⟨rfl, Below.refl _ _⟩
  case round =>
    obtain ⟨rfl, hA⟩ := hrel
    go_wp2
    go_ret
    exact ⟨rfl, hA.out⟩
theorem Compact_one (a : Option Addr) (c : Nat) (w : World) :
    Calls Try.prog 48 #[.slice a 1 c] w fun e w' => e = .returned (.slice a 1 c) ∧ Below w.heap.size w w' := by
  go_enter Try.func48, Try.ntmps48
  go_wp2
  go_ret
  exact ⟨rfl, Below.refl _ _⟩
theorem Answers.none {P : Program} {g : FuncId} {cs : Array Value} {w : World} : Answers P g cs w [] [] := ⟨rfl, fun i v b w1 h => by simp at h⟩
theorem glue_checkLooks (s : Int) (a : Option Addr) (n c : Nat) (a2 : Option Addr) (c2' : Nat) (x : Int) (w : World) (hn : (n : Int) ≤ 6) (hf : Sl1 w a2 1 c2' (ints [x])) (h1 : 0 ≤ x) (h2 : x ≤ 1000) (hsp : ∀ x, a2 = some x → x.spot = none) :
    Calls Try.prog 56 #[.agg #[.int .i64 s, .slice a n c], .slice a2 1 c2', .slice none 0 0] w fun e w' => e = .returned (.int .i64 0) ∧ Below w.heap.size w w' := by
  have Hf := Lib.hid hf
  have Hsp := Lib.hid hsp
  have m1 := fun w h => glue_isBox a2 1 c2' [x] w h
  rw [any_outside_false (by intro y hy; simp at hy; omega)] at m1
  have M1 := Lib.hid m1
  clear hf hsp m1
  go_enter Try.func56, Try.ntmps56
  have h0 := below_alloc w (.cells #[.int .i64 s, .slice a n c] 61)
  go_wp2_with fail
  refine (IsSorted_one a2 c2' _).mono ?_
  rintro e w1 ⟨rfl, hw1⟩
  have b1 := below_tr h0 hw1
  go_wp2_with fail
  refine (Clone_int a2 1 c2' (ints [x]) _ rfl (by omega) Hf.out.nil (ints_one _) (fun j u hj => (Hf.out.below b1).mem j u hj) Hsp.out).mono ?_
  rintro e w2 ⟨v, rfl, hown, hw2⟩
  have b2 := below_tr b1 hw2
  obtain ⟨av, cv, rfl, _⟩ := own_slice hown
  go_wp2_with fail
  refine (Compact_one av cv _).mono ?_
  rintro e w3 ⟨rfl, hw3⟩
  have b3 := below_tr b2 hw3
  go_wp2_with fail
  refine (M1.out _ (Hf.out.below b3)).mono ?_
  rintro e w4 ⟨rfl, hw4⟩
  have b4 := below_tr b3 hw4
  go_wp2_with fail
  refine (ContainsFunc_look 71 _ none 0 0 [] [] _ ⟨rfl, by omega, by omega, fun _ => ⟨rfl, rfl⟩, by simp⟩ (enters_of Try.func71 (by kernel_rfl) rfl) Answers.none).mono ?_
  rintro e w5 ⟨rfl, hw5⟩
  have b5 := below_tr b4 hw5
  go_wp2
  go_ret
  exact ⟨rfl, b5⟩
theorem glue_explained1 (a : Option Addr) (n c : Nat) (p : Nat) (q : Addr) (w : World) (hp : w.cell? ⟨p, 0, none⟩ = some (.slice none 0 0)) :
    Calls Try.prog 59 #[.slice a n c, .pointer (some ⟨p, 0, none⟩), .pointer (some q)] w (Ends false w) := by
  have hlt := cell_lt hp
  go_enter Try.func59, Try.ntmps59
  go_wp2_with fail
  refine (ContainsFunc_look 61 _ none 0 0 [] [] _ ⟨rfl, by omega, by omega, fun _ => ⟨rfl, rfl⟩, by simp⟩ (enters_of Try.func61 (by kernel_rfl) rfl) Answers.none).mono ?_
  rintro e w5 ⟨rfl, hw5⟩
  go_wp2
  go_ret
  exact ⟨rfl, below_tr (below_alloc _ _) hw5⟩
theorem eg_glue_explained1 : ∀ args w, (callFunc 59 args).run Try.prog w = .ok (.enter 59 args) w := enters_of Try.func59 (by kernel_rfl) rfl

theorem DeleteFunc_none (f : FuncId) (cs : Array Value) (a : Option Addr) (n c : Nat) (vs : List Value) (w : World) (h : Sl1 w a n c vs)
  (eg : ∀ args w, (callFunc f args).run Try.prog w = .ok (.enter f args) w) (hf : Answers Try.prog f cs w vs (vs.map fun _ => false)) :
    Calls Try.prog 57 #[.slice a n c, .func (.func f) #[] cs] w fun e w' => e = .returned (.slice a n c) ∧ Below w.heap.size w w' := by
  have H := Lib.hid h
  have Hf := Lib.hid hf
  have hm : firstTrue (vs.map fun _ => false) = -1 := firstTrue_miss _ (fun j hj => by simp at hj; simp [hj])
  have M := IndexFunc_causes f cs a n c vs _ w h eg hf
  rw [hm] at M
  have M1 := Lib.hid M
  clear h hf hm M
  go_enter Try.func57, Try.ntmps57
  go_wp2_with fail
  refine M1.out.mono ?_
  rintro e w1 ⟨rfl, hw1⟩
  go_wp2
  go_ret
  exact ⟨rfl, hw1⟩
end Go.Proofs.X
