/-
  A part of a claim: lemmas and contracts of functions of the program; each theorem says what is proved, and its conditions.
-/
import Derived.Test.YthgdekcbagbbkaaPrint6
import Derived.Test.YthgdekcbagbbkaaGlue5
open Go Go.RowKit
namespace Go.Proofs.X
theorem bitAt_test (r x : Int) : bitAt r x = (r.toNat.testBit x.toNat).toNat := (Nat.toNat_testBit _ _).symm
theorem moved3 (W x a b c : Int) : movedTo 3 W x 0 [a, b, c] 3 = [mvRow W x a, mvRow W x b, mvRow W x c] := by simp [movedTo, mvStep, List.replicate]
theorem mv0 (W t : Int) (h0 : 0 ≤ t) (h : t < 2 ^ W.toNat) : mvRow W 0 t = t := by
  obtain ⟨T, rfl⟩ := Int.eq_ofNat_of_zero_le h0
  rw [pow2_int] at h
  simp only [mvRow]
  rw [show ((max 0 0 : Int)).toNat = 0 from rfl, show ((max (-0) 0 : Int)).toNat = 0 from rfl]
  simp only [Nat.pow_zero, Nat.mul_one, Nat.div_one, Int.toNat_natCast]
  rw [Nat.mod_eq_of_lt (by omega)]
theorem mv1 (W t : Int) : mvRow W 1 t = ((t.toNat * 2 % 2 ^ W.toNat : Nat) : Int) := by
  simp only [mvRow]
  rw [show ((max 1 0 : Int)).toNat = 1 from rfl, show ((max (-1) 0 : Int)).toNat = 0 from rfl]
  simp
/-- the sheet's look at a cell of two like plates, the second one shifted by one -/
theorem seen_bits (W t x : Int) (h0 : 0 ≤ t) (h : t < 2 ^ W.toNat) (hx : 0 ≤ x) (hxW : x < W) (L : Nat) (hL : L = (0 ||| bitAt (mvRow W 0 t) x * 2 ^ 0) ||| bitAt (mvRow W 1 t) x * 2 ^ 1) :
    L < 4 ∧ (L = 0 ↔ bitAt (gvF W t 2 0) x = 0) ∧ (L = 3 ↔ bitAt (gvF W t 3 0) x = 1) := by
  rw [mv0 W t h0 h, mv1] at hL
  have e2 : bitAt (gvF W t 2 0) x = ((t.toNat.testBit x.toNat || (t.toNat * 2).testBit x.toNat)).toNat := by
    rw [bitAt_test]
    simp only [gvF, if_neg (show ¬ (2 : Int) = 1 by omega), if_pos]
    rw [Int.toNat_natCast, Nat.testBit_and, Nat.testBit_or, Nat.testBit_two_pow_sub_one, decide_eq_true (by omega), Bool.and_true, show (2 * t).toNat = t.toNat * 2 by omega]
  have e3 : bitAt (gvF W t 3 0) x = ((t.toNat.testBit x.toNat && (t.toNat * 2).testBit x.toNat)).toNat := by
    rw [bitAt_test]
    simp only [gvF, if_neg (show ¬ (3 : Int) = 1 by omega), if_neg (show ¬ (3 : Int) = 2 by omega), if_pos]
    rw [Int.toNat_natCast, Nat.testBit_and, show (2 * t).toNat = t.toNat * 2 by omega]
  rw [e2, e3, hL, bitAt_test, bitAt_test, Int.toNat_natCast, Nat.testBit_mod_two_pow, decide_eq_true (show x.toNat < W.toNat by omega), Bool.true_and]
  generalize t.toNat.testBit x.toNat = p
  generalize (t.toNat * 2).testBit x.toNat = q
  cases p <;> cases q <;> decide
theorem bit_val (r x : Int) (hr : 0 ≤ r) (hr2 : r ≤ 65535) : bits BinOp.and IntKind.i64 (r / 2 ^ x.toNat) 1 = ((bitAt r x : Nat) : Int) := by
  obtain ⟨R, rfl⟩ := Int.eq_ofNat_of_zero_le hr
  have e1 : (R : Int) / 2 ^ x.toNat = ((R / 2 ^ x.toNat : Nat) : Int) := by
    rw [pow2_int]
    exact (Int.natCast_ediv _ _).symm
  have h1 : R / 2 ^ x.toNat ≤ R := Nat.div_le_self _ _
  rw [e1]
  have := i64_and_nat (R / 2 ^ x.toNat) 1 (by omega) (by omega)
  rw [show ((1 : Nat) : Int) = 1 from rfl] at this
  rw [this, Nat.and_one_is_mod]
  simp [bitAt]
theorem look_two (W : Nat) (R : List Int) (k : Nat) (t x : Int) (ht : R[k]? = some t) (hl : R.length = 3) (hR : ∀ r ∈ R, 0 ≤ r ∧ r < 2 ^ (W : Int).toNat) :
    lookTo (sheetOf 3 (W : Int) [R, R] [(0, 0), (1, 0)] 2) x (k : Int) 2 = (0 ||| bitAt (mvRow W 0 t) x * 2 ^ 0) ||| bitAt (mvRow W 1 t) x * 2 ^ 1 := by
  match R, hl with
  | [a, b, c], _ =>
    have e : sheetOf 3 (W : Int) [[a, b, c], [a, b, c]] [(0, 0), (1, 0)] 2 = [[mvRow W 0 a, mvRow W 0 b, mvRow W 0 c], [mvRow W 1 a, mvRow W 1 b, mvRow W 1 c]] := by
      unfold sheetOf
      rw [show List.range 2 = [0, 1] from rfl]
      simp only [List.map_cons, List.map_nil]
      show [movedTo 3 W 0 0 [a, b, c] 3, movedTo 3 W 1 0 [a, b, c] 3] = _
      rw [moved3, moved3]
    rw [e]
    simp only [lookTo, Int.toNat_natCast]
    rcases k with _ | _ | _ | k
    · simp at ht; subst ht; rfl
    · simp at ht; subst ht; rfl
    · simp at ht; subst ht; rfl
    · simp at ht
/-- a byte of the text -/
theorem text_byte (sh : List (List Int)) (k W : Nat) (x : Int) (h0 : 0 ≤ x) (h1 : x < W) (hL : lookTo sh x k 2 < 4) (S : ByteArray) (hS : S = ⟨(textRow sh (k : Int) 2 W).toArray⟩) (h : x.toNat < S.size) :
    ((S[x.toNat]'h).toNat : Int) = 48 + (lookTo sh x k 2 : Int) := by
  subst hS
  obtain ⟨j, rfl⟩ := Int.eq_ofNat_of_zero_le h0
  have hj : j < W := by omega
  show (((textRow sh (k : Int) 2 W).toArray[j]'(by simpa [textRow] using hj)).toNat : Int) = _
  simp only [textRow, List.getElem_toArray, List.getElem_map, List.getElem_range]
  rw [UInt8.toNat_ofNat']
  omega
end Go.Proofs.X
