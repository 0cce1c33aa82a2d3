/-
  A part of a claim: lemmas and contracts of functions of the program; each theorem says what is proved, and its conditions.
-/
import Derived.Test.YthgdekcbagbbkaaLib
open Go Go.RowKit
namespace Go.Proofs.X
theorem pow2_int (k : Nat) : (2 : Int) ^ k = ((2 ^ k : Nat) : Int) := by simp
theorem pow2_bd {k m : Nat} (h : k ≤ m) : 1 ≤ (2 : Int) ^ k ∧ (2 : Int) ^ k ≤ 2 ^ m := by
  have h1 : 2 ^ k ≤ 2 ^ m := Nat.pow_le_pow_right (by omega) h
  have h2 : 0 < 2 ^ k := Nat.pow_pos (by omega)
  rw [pow2_int, pow2_int]
  omega
theorem wrap_in {x : Int} (h1 : -9223372036854775808 ≤ x) (h2 : x ≤ 9223372036854775807) : IntKind.i64.wrap x = x := by
  rw [IntKind.wrap_i64]; omega
theorem wrap_mask {s : Int} (h1 : 0 ≤ s) (h2 : s ≤ 16) : IntKind.i64.wrap (IntKind.i64.wrap (2 ^ s.toNat) - 1) = 2 ^ s.toNat - 1 := by
  have := pow2_bd (k := s.toNat) (m := 16) (by omega)
  rw [wrap_in (x := 2 ^ s.toNat) (by omega) (by omega)]
  rw [wrap_in (by omega) (by omega)]
theorem any_outside_false {lo hi : Int} {l : List Int} (h : ∀ x ∈ l, lo ≤ x ∧ x ≤ hi) : (!(l.any (outside lo hi))) = true := by
  simp only [Bool.not_eq_true', List.any_eq_false, outside, Bool.or_eq_true, decide_eq_true_eq]
  intro x hx
  have := h x hx
  omega
theorem frozen_later {w w1 : World} {b o : Nat} (h : w.frozen? ⟨b, o, none⟩ = false) (hlt : b < w.heap.size) (hb : Below w.heap.size w w1) : w1.frozen? ⟨b, o, none⟩ = false := by
  rw [hb.frozen (p := ⟨b, o, none⟩) hlt]; exact h
theorem ofInt_i64 (a : Nat) (ha : a < 9223372036854775808) : (BitVec.ofInt 64 (a : Int)).toNat = a := by
  rw [BitVec.ofInt_natCast, BitVec.toNat_ofNat]; exact Nat.mod_eq_of_lt (by omega)
theorem i64_and_nat (a b : Nat) (ha : a < 9223372036854775808) (hb : b < 9223372036854775808) : bits .and .i64 (a : Int) (b : Int) = ((a &&& b : Nat) : Int) := by
  have hx : a &&& b < 2 ^ 63 := Nat.and_lt_two_pow _ (by omega)
  show IntKind.i64.wrap ((BitVec.ofInt 64 (a : Int) &&& BitVec.ofInt 64 (b : Int)).toNat : Int) = _
  rw [BitVec.toNat_and, ofInt_i64 a ha, ofInt_i64 b hb]
  exact wrap_in (by omega) (by omega)
theorem i64_or_nat (a b : Nat) (ha : a < 9223372036854775808) (hb : b < 9223372036854775808) : bits .or .i64 (a : Int) (b : Int) = ((a ||| b : Nat) : Int) := by
  have hx : a ||| b < 2 ^ 63 := Nat.or_lt_two_pow (by omega) (by omega)
  show IntKind.i64.wrap ((BitVec.ofInt 64 (a : Int) ||| BitVec.ofInt 64 (b : Int)).toNat : Int) = _
  rw [BitVec.toNat_or, ofInt_i64 a ha, ofInt_i64 b hb]
  exact wrap_in (by omega) (by omega)
theorem i64_and (a b : Int) (h1 : 0 ≤ a) (h2 : a < 9223372036854775808) (h3 : 0 ≤ b) (h4 : b < 9223372036854775808) : bits .and .i64 a b = ((a.toNat &&& b.toNat : Nat) : Int) := by
  obtain ⟨A, rfl⟩ := Int.eq_ofNat_of_zero_le h1
  obtain ⟨B, rfl⟩ := Int.eq_ofNat_of_zero_le h3
  simpa using i64_and_nat A B (by omega) (by omega)
theorem i64_or (a b : Int) (h1 : 0 ≤ a) (h2 : a < 9223372036854775808) (h3 : 0 ≤ b) (h4 : b < 9223372036854775808) : bits .or .i64 a b = ((a.toNat ||| b.toNat : Nat) : Int) := by
  obtain ⟨A, rfl⟩ := Int.eq_ofNat_of_zero_le h1
  obtain ⟨B, rfl⟩ := Int.eq_ofNat_of_zero_le h3
  simpa using i64_or_nat A B (by omega) (by omega)
theorem wrap64_in {x : Int} (h1 : -9223372036854775808 ≤ x) (h2 : x ≤ 9223372036854775807) : wrap64 x = x := IntWalk.wrap64_in x ⟨h1, h2⟩
theorem wrap64_mask {s : Int} (h1 : 0 ≤ s) (h2 : s ≤ 16) : wrap64 (wrap64 (2 ^ s.toNat) - 1) = 2 ^ s.toNat - 1 := by
  have := pow2_bd (k := s.toNat) (m := 16) (by omega)
  rw [wrap64_in (x := 2 ^ s.toNat) (by omega) (by omega)]
  rw [wrap64_in (by omega) (by omega)]
theorem cell_set_ne {w : World} {b o g j : Nat} {u v : Value} (h : w.cell? ⟨b, o, none⟩ = some v) (hne : b ≠ g) : (w.setCell ⟨g, j, none⟩ u).cell? ⟨b, o, none⟩ = some v := by
  rw [World.cell?_setCell_far _ _ _ _ (by simpa using fun e => hne e.symm)]; exact h
theorem ints_set (l : List Int) (j : Nat) (x : Int) : (ints l).set j (.int .i64 x) = ints (l.set j x) := by simp [ints, List.map_set]
end Go.Proofs.X
